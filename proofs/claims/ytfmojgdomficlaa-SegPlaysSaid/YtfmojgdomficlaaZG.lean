/-
  Texts of one hand, laid together: SegMerged, SegMerge.
-/
import Derived.Test.YtfmojgdomficlaaZF
set_option linter.unusedVariables false
set_option linter.unusedSimpArgs false
/-! Merged records: the walk. -/
namespace Go.Proofs.Ytfmojgdomficlaa
open Go.RowKit Go.Shelf Go.Proofs.YtfmojgdomficlaaW.PrintWords

theorem eqEvKey (d : Nat) (w : World) (x0 y0 : Int) (x1 y1 : Int) :
    (Op.equalIn (d + 2) 136 (.agg #[.int .i64 x0, .int .i64 x1]) (.agg #[.int .i64 y0, .int .i64 y1])).run Try.prog w = .ok (keyEq ⟨x0, x1⟩ ⟨y0, y1⟩) w := by
  have e : keyEq ⟨x0, x1⟩ ⟨y0, y1⟩ = (x0 == y0 && (x1 == y1)) := by unfold keyEq; rw [Bool.eq_iff_iff]; simp
  rw [e]; clear e
  refine eqA_of Try.underlying136 (by kernel_rfl) ?_
  refine eqf_cons (by rfl) (by go_simp; rfl) (by go_simp; rfl) (by go_simp) ?_
  exact eqf_last (by rfl) (by go_simp; rfl) (by go_simp; rfl) (by go_simp)
abbrev evEnc (k : Key) : Value := .agg #[.int .i64 k.src, .int .i64 k.id]
theorem evLaw : KeyT Try.prog 136 evEnc := by
  refine keyT_struct (fs := Try.prog.fieldsOf 136) (by kernel_rfl) (fun k => ⟨_, rfl⟩) (fun em k w => by kernel_rfl) (fun a b w => ?_) (fun k => by simp [Instr.sameBits])
  have h := eqEvKey 9998 w a.src b.src a.id b.id
  exact h
theorem intLaw : KeyT Try.prog 3 (Value.int .i64) := keyT_int Try.underlying3
abbrev iv (i : Int) : Value := .int .i64 i
/-- The two maps lie. -/
structure Maps2 (W : World) (bE bM : Nat) (E : List (Key × Int)) (M : List (Int × Int)) : Prop where
  ev : W.heap[bE]? = some (mapObj evEnc (mapV iv E))
  mp : W.heap[bM]? = some (mapObj (Value.int .i64) (mapV iv M))
theorem Maps2.later {W W' : World} {bE bM : Nat} {E : List (Key × Int)} {M : List (Int × Int)} (h : Maps2 W bE bM E M) (hb : Below W.heap.size W W') : Maps2 W' bE bM E M := ⟨heap_later hb h.ev, heap_later hb h.mp⟩
theorem Maps2.ne {W : World} {bE bM : Nat} {E : List (Key × Int)} {M : List (Int × Int)} (h : Maps2 W bE bM E M) (hE : bE < bM) (E' : List (Key × Int)) : Maps2 (putMap W bE (mapObj evEnc (mapV iv E'))) bE bM E' M :=
  ⟨putMap_at h.ev _, (putMap_ne W (by omega) _).trans h.mp⟩
theorem Maps2.nm {W : World} {bE bM : Nat} {E : List (Key × Int)} {M : List (Int × Int)} (h : Maps2 W bE bM E M) (hE : bE < bM) (M' : List (Int × Int)) : Maps2 (putMap W bM (mapObj (Value.int .i64) (mapV iv M'))) bE bM E M' :=
  ⟨(putMap_ne W (by omega) _).trans h.ev, putMap_at h.mp _⟩
set_option maxRecDepth 100000 in
set_option maxHeartbeats 8000000 in
theorem seg_merged (n1 n2 s1 s2 : Int) (A1 A2 : Option Addr) (l1 l2 : List SRec) (c1 c2 : Nat) (w : World) (h1 : RecRow w A1 l1.length l1) (h2 : RecRow w A2 l2.length l2) (hc1 : l1.length ≤ c1) (hc2 : l2.length ≤ c2) (hl1 : l1.length ≤ 100000) (hl2 : l2.length ≤ 100000) :
    Calls Try.prog 89 #[.agg #[.int .i64 n1, .slice A1 l1.length c1, .int .i64 s1], .agg #[.int .i64 n2, .slice A2 l2.length c2, .int .i64 s2]] w fun e w' => ∃ v, e = .returned v ∧ Own kSRec 83 w' w.heap.size v (mergedOf (l1 ++ l2)) ∧ Below w.heap.size w w' := by
  have H1 := Lib.hid h1
  have H2 := Lib.hid h2
  clear h1 h2
  have hmE : ∀ w : World, (Instr.makeMap 132 none).run Try.prog w = .ok (.map (some w.heap.size)) (w.alloc (.map #[] 0)) := fun w => by kernel_rfl
  have hmM : ∀ w : World, (Instr.makeMap 133 none).run Try.prog w = .ok (.map (some w.heap.size)) (w.alloc (.map #[] 0)) := fun w => by kernel_rfl
  go_enter Try.func89, Try.ntmps89
  go_wp2
  have hX : ∀ X, Below (w.heap.size + 2) ((w.alloc (.cells #[.int .i64 n1, .slice A1 l1.length c1, .int .i64 s1] 62)).alloc (.cells #[.int .i64 n2, .slice A2 l2.length c2, .int .i64 s2] 62)) X → X.cell? ⟨w.heap.size, 1, none⟩ = some (.slice A1 l1.length c1) ∧ X.cell? ⟨w.heap.size + 1, 1, none⟩ = some (.slice A2 l2.length c2) ∧ Below w.heap.size w X := by
    intro X hX
    have q1 := (Cells.new w #[.int .i64 n1, .slice A1 l1.length c1, .int .i64 s1] 62).later (below_alloc (Below.refl _ _) (.cells #[.int .i64 n2, .slice A2 l2.length c2, .int .i64 s2] 62))
    have q2 := Cells.new (w.alloc (.cells #[.int .i64 n1, .slice A1 l1.length c1, .int .i64 s1] 62)) #[.int .i64 n2, .slice A2 l2.length c2, .int .i64 s2] 62
    have q3 := q1.later (by simpa using hX)
    have q4 := q2.later (by simpa using hX)
    exact ⟨q3.cell 1 _ rfl, by have := q4.cell 1 _ rfl; simpa using this, below_step (below_alloc (below_alloc (Below.refl _ _) _) _) (by simpa using hX)⟩
  have HX := Lib.hid hX
  clear hX
  refine wp_region_flow [.free 0, .calm 1, .free 3, .calm 4, .group [2], .fence 5, .free 6] (Below (w.heap.size + 2) ((w.alloc (.cells #[.int .i64 n1, .slice A1 l1.length c1, .int .i64 s1] 62)).alloc (.cells #[.int .i64 n2, .slice A2 l2.length c2, .int .i64 s2] 62))) (Below (w.heap.size + 2) ((w.alloc (.cells #[.int .i64 n1, .slice A1 l1.length c1, .int .i64 s1] 62)).alloc (.cells #[.int .i64 n2, .slice A2 l2.length c2, .int .i64 s2] 62))) (stable_below _ _ (by simp)) (fun _ h => h) (by kernel_rfl) (by kernel_rfl) (below_drew1 (Below.refl _ _)) ?_
  simp only [pickEnts, pickF, List.getElem?_cons_succ, List.getElem?_cons_zero, List.filterMap_cons, List.filterMap_nil, Option.map_some]
  repeat ((first | refine flow_calm (fun K hK => ?_) | refine flow_free (fun K hK => ?_) | refine float_calm (fun K hK => ?_) | refine float_free (fun K hK => ?_)); go_simp; first | (refine hK _ ?_; clear hK K) | (apply Exists.intro; (refine ⟨fun X => ?_, hK _ ?_⟩); (first | (intro hC; rfl) | rfl | (intro hC; obtain ⟨x0, x1, x2⟩ := HX.out X hC.out; go_simp; done) | (intro hC; obtain ⟨x0, x1, x2⟩ := HX.out X hC.out; go_simp; rfl)); clear hK K))
  refine flow_one (fun v X => Own kSRec 83 X w.heap.size v l1) (fun _ _ _ h hb => Kd.R_below h hb) ⟨rfl, fun X hX => ?_⟩ (fun v X0 hX0 hV0 => ?_)
  · obtain ⟨x0, x1, x2⟩ := HX.out X hX.out
    go_simp
    refine ⟨Below.refl _ _, (seg_copied_srec l1 A1 c1 X (Kd.C_below H1.out x2) (by omega)).mono ?_⟩
    rintro e w' ⟨v, rfl, h1, h2⟩
    exact ⟨v, rfl, h2, Kd.R_lower h1 x2.size⟩
  obtain ⟨A3, n3, c3, rfl⟩ := R_slice' hV0
  clear hX0 hV0
  refine flow_fence rfl (fun X2 hX2 K hK => ?_)
  obtain ⟨hb2, ho2⟩ := hX2.out
  obtain ⟨-, -, hB2⟩ := HX.out X2 hb2
  refine Kd.R_append_rows_step kSRec (w0 := X2) w.heap.size (by rfl) (.tmp 21) (.tmp 23) 60 83 (.agg #[.int .i64 0, .int .i64 0, .int .i64 0, .int .i64 0, .int .i64 0, .int .i64 0, .int .i64 0, .int .i64 0]) 64 rfl (by kernel_rfl) (by kernel_rfl) rfl (by decide) (by omega) (.slice A3 n3 c3) l1 l2 _ _ _ (fun _ => True) (fun _ => False) rfl rfl ho2 (Kd.C_below H2.out hB2) (fun x cs h => srec_KM _ _ _ _ x cs h) (fun _ h => h.elim) (fun _ _ => trivial) (Below.refl _ _) hB2.size (by omega) ?_
  intro v1 w1 r1 r2 r3 r4
  obtain ⟨A4, n4, c4, rfl⟩ := R_slice' r1
  refine hK.out _ _ (fun Z => Below w.heap.size w Z ∧ Own kSRec 83 Z w.heap.size (.slice A4 n4 c4) (l1 ++ l2)) (fun Z => Below w.heap.size w Z ∧ Own kSRec 83 Z w.heap.size (.slice A4 n4 c4) (l1 ++ l2)) (fun Z Z' hZ hb => ⟨below_step hZ.1 hb, Kd.R_below hZ.2 hb⟩) (fun _ h => h) ⟨hB2.trans r2, r1⟩ ?_
  clear hK K hX2 hb2 ho2 hB2 r1 r2 r3 r4 HX
  repeat ((first | refine flow_calm (fun K hK => ?_) | refine flow_free (fun K hK => ?_) | refine float_calm (fun K hK => ?_) | refine float_free (fun K hK => ?_)); go_simp; first | (refine hK _ ?_; clear hK K) | (apply Exists.intro; (refine ⟨fun X => ?_, hK _ ?_⟩); (first | (intro hC; rfl) | rfl | (intro hC; skip; go_simp; done) | (intro hC; skip; go_simp; rfl)); clear hK K))
  refine flow_nil ?_
  intro wa hwa
  obtain ⟨hBa, hoa⟩ := hwa.out
  have hll : (l1 ++ l2).length ≤ 200000 := by rw [List.length_append]; omega
  clear hwa H1 H2 hl1 hl2
  generalize hLL : l1 ++ l2 = l at hoa hll ⊢
  have HLL := Lib.hid hLL
  clear hLL
  obtain ⟨A5, c5, he, hlc, hrow⟩ := own_reads' hoa
  injection he with e1 e2 e3
  subst e1 e2 e3
  have Hrow := Lib.hid hrow
  clear hrow hoa
  go_wp2
  have hM0 : Maps2 ((wa.alloc (.map #[] 0)).alloc (.map #[] 0)) wa.heap.size (wa.heap.size + 1) [] [] :=
    ⟨(alloc_old (World.alloc_heap_new wa (.map #[] 0)) _).trans rfl, by have := World.alloc_heap_new (wa.alloc (.map #[] 0)) (.map #[] 0); rw [World.size_alloc] at this; exact this.trans rfl⟩
  have hB0 : Below wa.heap.size wa ((wa.alloc (.map #[] 0)).alloc (.map #[] 0)) := below_alloc (below_alloc (Below.refl _ _) _) _
  generalize (wa.alloc (.map #[] 0)).alloc (.map #[] 0) = wb at hM0 hB0 ⊢
  clear hmE hmM
  go_loopw [8, 29] (fun _ i wr => ∃ (k : Nat) (E : List (Key × Int)) (M : List (Int × Int)), k ≤ l.length ∧ i = .int .i64 k ∧ Below wa.heap.size wa wr ∧ Maps2 wr wa.heap.size (wa.heap.size + 1) E M ∧ Hid (EvMap l k E ∧ MkMap l k M)) (fun _ i _ => l.length - (intOf i).toNat)
  case atStart => exact ⟨0, [], [], Nat.zero_le _, rfl, hB0, hM0, Lib.hid ⟨EvMap.nil l, MkMap.nil l⟩⟩
  case round =>
    obtain ⟨k, E, M, hk, rfl, hB, hmp, HV⟩ := hrel
    have HM := Lib.hid hmp
    clear hmp hM0 hB0
    by_cases hlt : k < l.length
    · obtain ⟨x, ad, -, -, hget, rfl, e0, e1, e2, e3, e4, e5, e6, e7⟩ := srec_at (Kd.C_below Hrow.out hB) k hlt
      have Hx := Lib.hid hget
      clear hget
      have HmW2 := Lib.hid (HM.out.later (W' := ((wr.alloc (.cells #[.int .i64 x.news.do_, .int .i64 x.news.src, .int .i64 x.news.id, .int .i64 x.news.ver, .int .i64 x.news.body.at_, .int .i64 x.news.body.key, .int .i64 x.news.body.val, .int .i64 x.sum] 83)).alloc (.cells #[.int .i64 x.news.do_, .int .i64 x.news.src, .int .i64 x.news.id, .int .i64 x.news.ver, .int .i64 x.news.body.at_, .int .i64 x.news.body.key, .int .i64 x.news.body.val] 26))) (below_alloc (below_alloc (Below.refl _ _) _) _))
      have HbW2 := Lib.hid (show Below wa.heap.size wa ((wr.alloc (.cells #[.int .i64 x.news.do_, .int .i64 x.news.src, .int .i64 x.news.id, .int .i64 x.news.ver, .int .i64 x.news.body.at_, .int .i64 x.news.body.key, .int .i64 x.news.body.val, .int .i64 x.sum] 83)).alloc (.cells #[.int .i64 x.news.do_, .int .i64 x.news.src, .int .i64 x.news.id, .int .i64 x.news.ver, .int .i64 x.news.body.at_, .int .i64 x.news.body.key, .int .i64 x.news.body.val] 26)) from below_alloc (below_alloc hB _) _)
      have HnW2 := Lib.hid (show Cells ((wr.alloc (.cells #[.int .i64 x.news.do_, .int .i64 x.news.src, .int .i64 x.news.id, .int .i64 x.news.ver, .int .i64 x.news.body.at_, .int .i64 x.news.body.key, .int .i64 x.news.body.val, .int .i64 x.sum] 83)).alloc (.cells #[.int .i64 x.news.do_, .int .i64 x.news.src, .int .i64 x.news.id, .int .i64 x.news.ver, .int .i64 x.news.body.at_, .int .i64 x.news.body.key, .int .i64 x.news.body.val] 26)) (wr.heap.size + 1) #[.int .i64 x.news.do_, .int .i64 x.news.src, .int .i64 x.news.id, .int .i64 x.news.ver, .int .i64 x.news.body.at_, .int .i64 x.news.body.key, .int .i64 x.news.body.val] 26 by have := Cells.new (wr.alloc (.cells #[.int .i64 x.news.do_, .int .i64 x.news.src, .int .i64 x.news.id, .int .i64 x.news.ver, .int .i64 x.news.body.at_, .int .i64 x.news.body.key, .int .i64 x.news.body.val, .int .i64 x.sum] 83)) #[.int .i64 x.news.do_, .int .i64 x.news.src, .int .i64 x.news.id, .int .i64 x.news.ver, .int .i64 x.news.body.at_, .int .i64 x.news.body.key, .int .i64 x.news.body.val] 26; simpa using this)
      by_cases h3 : x.news.do_ = 3
      · have h3b : (x.news.do_ == 3) = true := by simpa using h3
        have H3 := Lib.hid h3
        clear h3
        cases hb : mkBest l x.news.src k with
        | none =>
          have Hget := Lib.hid (show aget x.news.src (mapV iv M) = none by rw [aget_mapV, HV.out.2 x.news.src, hb]; rfl)
          have Hb := Lib.hid hb
          clear hb
          go_wp2_with (first
            | ((with_reducible refine at_lku rfl ?_); refine wpList_lookup_map intLaw Try.underlying133 (z := .int .i64 0) (fun w => by kernel_rfl) _ rfl _ _ _ rfl (wa.heap.size + 1) rfl x.news.src rfl (mapV iv M) (HM.out.later (by repeat (first | exact Below.refl _ _ | assumption | apply below_alloc))).mp none Hget.out ?_))
          generalize hW2 : ((wr.alloc (.cells #[.int .i64 x.news.do_, .int .i64 x.news.src, .int .i64 x.news.id, .int .i64 x.news.ver, .int .i64 x.news.body.at_, .int .i64 x.news.body.key, .int .i64 x.news.body.val, .int .i64 x.sum] 83)).alloc (.cells #[.int .i64 x.news.do_, .int .i64 x.news.src, .int .i64 x.news.id, .int .i64 x.news.ver, .int .i64 x.news.body.at_, .int .i64 x.news.body.key, .int .i64 x.news.body.val] 26)) = W2 at HbW2 HmW2 HnW2 ⊢
          clear hW2
          refine wp_region_flow [.free 0, .free 1, .free 2, .free 3, .free 4, .free 5, .free 6, .free 7, .free 8, .free 9, .free 10, .free 11, .free 12, .free 13, .free 14] (Below W2.heap.size W2) (Below W2.heap.size W2) (stable_below _ _ (Nat.le_refl _)) (fun _ h => h) (by kernel_rfl) (by kernel_rfl) (below_drew1 (Below.refl _ _)) ?_
          simp only [pickEnts, pickF, List.getElem?_cons_succ, List.getElem?_cons_zero, List.filterMap_cons, List.filterMap_nil, Option.map_some]
          repeat ((first | refine flow_calm (fun K hK => ?_) | refine flow_free (fun K hK => ?_) | refine float_calm (fun K hK => ?_) | refine float_free (fun K hK => ?_)); go_simp; first | (refine hK _ ?_; clear hK K) | (apply Exists.intro; (refine ⟨fun X => ?_, hK _ ?_⟩); (first | (intro hC; rfl) | rfl | (intro hC; skip; go_simp; done) | (intro hC; skip; go_simp; rfl)); clear hK K))
          refine flow_nil ?_
          intro X hX
          have hbX := hX.out
          have hnX := HnW2.out.later hbX
          clear hX
          have y0 := hnX.cell 0 _ rfl
          have y1 := hnX.cell 1 _ rfl
          have y2 := hnX.cell 2 _ rfl
          have y3 := hnX.cell 3 _ rfl
          have hBX : Below wa.heap.size wa X := HbW2.out.trans (Below.mono hbX HbW2.out.size)
          go_wp2_with (first
            | ((with_reducible refine at_upd rfl ?_); refine wpList_update_map intLaw Try.underlying133 _ rfl _ _ _ rfl (wa.heap.size + 1) rfl x.news.src rfl (.int .i64 k) rfl (mapV iv M) (HmW2.out.later hbX).mp ?_; have hpm := (HmW2.out.later hbX).nm (Nat.lt_succ_self _) (aput x.news.src (k : Int) M); rw [← aput_mapV] at hpm))
          exact ⟨⟨k + 1, E, aput x.news.src (k : Int) M, by omega, by go_num, below_putMap hBX (by omega) _, hpm, Lib.hid ⟨HV.out.1.mark Hx.out H3.out, HV.out.2.new Hx.out H3.out (.inl Hb.out)⟩⟩, by simp [intOf]; omega⟩
        | some q =>
          have hq := mkBest_lt _ _ _ _ hb
          have Hget := Lib.hid (show aget x.news.src (mapV iv M) = some (.int .i64 (q : Int)) by rw [aget_mapV, HV.out.2 x.news.src, hb]; rfl)
          have Hb := Lib.hid hb
          clear hb
          obtain ⟨y, ad', -, -, hgy, hAd, f0, f1, f2, f3, f4, f5, f6, -⟩ := srec_at (Kd.C_below Hrow.out hB) q (by omega)
          cases hAd
          have Hy := Lib.hid (show (l[q]?.getD default).news.body.at_ = y.news.body.at_ by rw [hgy]; rfl)
          clear hgy
          have F := Lib.hid f4
          clear f0 f1 f2 f3 f4 f5 f6
          go_wp2_with (first
            | ((with_reducible refine at_lku rfl ?_); refine wpList_lookup_map intLaw Try.underlying133 (z := .int .i64 0) (fun w => by kernel_rfl) _ rfl _ _ _ rfl (wa.heap.size + 1) rfl x.news.src rfl (mapV iv M) (HM.out.later (by repeat (first | exact Below.refl _ _ | assumption | apply below_alloc))).mp (some (.int .i64 (q : Int))) Hget.out ?_))
          have Hw2 := Lib.hid (show Below wr.heap.size wr ((wr.alloc (.cells #[.int .i64 x.news.do_, .int .i64 x.news.src, .int .i64 x.news.id, .int .i64 x.news.ver, .int .i64 x.news.body.at_, .int .i64 x.news.body.key, .int .i64 x.news.body.val, .int .i64 x.sum] 83)).alloc (.cells #[.int .i64 x.news.do_, .int .i64 x.news.src, .int .i64 x.news.id, .int .i64 x.news.ver, .int .i64 x.news.body.at_, .int .i64 x.news.body.key, .int .i64 x.news.body.val] 26)) from below_alloc (below_alloc (Below.refl _ _) _) _)
          generalize hW2 : ((wr.alloc (.cells #[.int .i64 x.news.do_, .int .i64 x.news.src, .int .i64 x.news.id, .int .i64 x.news.ver, .int .i64 x.news.body.at_, .int .i64 x.news.body.key, .int .i64 x.news.body.val, .int .i64 x.sum] 83)).alloc (.cells #[.int .i64 x.news.do_, .int .i64 x.news.src, .int .i64 x.news.id, .int .i64 x.news.ver, .int .i64 x.news.body.at_, .int .i64 x.news.body.key, .int .i64 x.news.body.val] 26)) = W2 at HbW2 HmW2 HnW2 Hw2 ⊢
          clear hW2
          have hqi : (0 : Int) ≤ (q : Int) := by omega
          have hqn : q < l.length := by omega
          cases hv : decide (y.news.body.at_ < x.news.body.at_)
          all_goals
            refine wp_region_flow [.free 0, .free 1, .free 2, .free 3, .free 4, .free 5, .free 6, .free 7, .free 8, .calm 9, .free 10, .free 11, .calm 12, .free 13, .free 14] (Below W2.heap.size W2) (Below W2.heap.size W2) (stable_below _ _ (Nat.le_refl _)) (fun _ h => h) (by kernel_rfl) (by kernel_rfl) (below_drew1 (Below.refl _ _)) ?_
            simp only [pickEnts, pickF, List.getElem?_cons_succ, List.getElem?_cons_zero, List.filterMap_cons, List.filterMap_nil, Option.map_some]
            repeat ((first | refine flow_calm (fun K hK => ?_) | refine flow_free (fun K hK => ?_) | refine float_calm (fun K hK => ?_) | refine float_free (fun K hK => ?_)); go_simp; first | (refine hK _ ?_; clear hK K) | (apply Exists.intro; (refine ⟨fun X => ?_, hK _ ?_⟩); (first | (intro hC; rfl) | rfl | (intro hC; have hnX := HnW2.out.later hC.out; have y0 := hnX.cell 0 _ rfl; have y1 := hnX.cell 1 _ rfl; have y2 := hnX.cell 2 _ rfl; have y3 := hnX.cell 3 _ rfl; have y4 := hnX.cell 4 _ rfl; have z := cell_keep (Hw2.out.trans (Below.mono hC.out Hw2.out.size)) F.out; go_simp; done) | (intro hC; have hnX := HnW2.out.later hC.out; have y0 := hnX.cell 0 _ rfl; have y1 := hnX.cell 1 _ rfl; have y2 := hnX.cell 2 _ rfl; have y3 := hnX.cell 3 _ rfl; have y4 := hnX.cell 4 _ rfl; have z := cell_keep (Hw2.out.trans (Below.mono hC.out Hw2.out.size)) F.out; go_simp; rfl)); clear hK K))
          · refine flow_nil ?_
            intro X hX
            have hbX := hX.out
            clear hX
            have hBX : Below wa.heap.size wa X := HbW2.out.trans (Below.mono hbX HbW2.out.size)
            have hv : ¬ (l[q]?.getD default).news.body.at_ < x.news.body.at_ := by rw [Hy.out]; simpa using hv
            have HVn := Lib.hid (show EvMap l (k + 1) E ∧ MkMap l (k + 1) M from ⟨HV.out.1.mark Hx.out H3.out, HV.out.2.old Hx.out Hb.out hv⟩)
            clear hv
            go_wp2
            exact ⟨⟨k + 1, E, M, by omega, by go_num, hBX, HmW2.out.later hbX, HVn⟩, by simp [intOf]; omega⟩
          · refine flow_nil ?_
            intro X hX
            have hbX := hX.out
            have hnX := HnW2.out.later hbX
            clear hX
            have y0 := hnX.cell 0 _ rfl
            have y1 := hnX.cell 1 _ rfl
            have y2 := hnX.cell 2 _ rfl
            have y3 := hnX.cell 3 _ rfl
            have hBX : Below wa.heap.size wa X := HbW2.out.trans (Below.mono hbX HbW2.out.size)
            have hv' : (l[q]?.getD default).news.body.at_ < x.news.body.at_ := by rw [Hy.out]; simpa using hv
            have HVn := Lib.hid (show EvMap l (k + 1) (E) ∧ MkMap l (k + 1) (aput x.news.src (k : Int) M) from ⟨HV.out.1.mark Hx.out H3.out, HV.out.2.new Hx.out H3.out (.inr ⟨q, Hb.out, hv'⟩)⟩)
            clear hv'
            go_wp2_with (first
              | ((with_reducible refine at_upd rfl ?_); refine wpList_update_map intLaw Try.underlying133 _ rfl _ _ _ rfl (wa.heap.size + 1) rfl x.news.src rfl (.int .i64 k) rfl (mapV iv M) (HmW2.out.later hbX).mp ?_; have hpm := (HmW2.out.later hbX).nm (Nat.lt_succ_self _) (aput x.news.src (k : Int) M); rw [← aput_mapV] at hpm))
            exact ⟨⟨k + 1, E, aput x.news.src (k : Int) M, by omega, by go_num, below_putMap hBX (by omega) _, hpm, HVn⟩, by simp [intOf]; omega⟩
      · have h3b : (x.news.do_ == 3) = false := by simpa using h3
        have H3 := Lib.hid h3
        clear h3
        cases hb : evBest l (keyOf x.news) k with
        | none =>
          have Hget := Lib.hid (show aget (keyOf x.news) (mapV iv E) = none by rw [aget_mapV, HV.out.1 (keyOf x.news), hb]; rfl)
          have Hb := Lib.hid hb
          clear hb
          go_wp2_with (first
            | ((with_reducible refine at_lku rfl ?_); refine wpList_lookup_map evLaw Try.underlying132 (z := .int .i64 0) (fun w => by kernel_rfl) _ rfl _ _ _ rfl wa.heap.size rfl (keyOf x.news) rfl (mapV iv E) (HM.out.later (by repeat (first | exact Below.refl _ _ | assumption | apply below_alloc))).ev none Hget.out ?_))
          generalize hW2 : ((wr.alloc (.cells #[.int .i64 x.news.do_, .int .i64 x.news.src, .int .i64 x.news.id, .int .i64 x.news.ver, .int .i64 x.news.body.at_, .int .i64 x.news.body.key, .int .i64 x.news.body.val, .int .i64 x.sum] 83)).alloc (.cells #[.int .i64 x.news.do_, .int .i64 x.news.src, .int .i64 x.news.id, .int .i64 x.news.ver, .int .i64 x.news.body.at_, .int .i64 x.news.body.key, .int .i64 x.news.body.val] 26)) = W2 at HbW2 HmW2 HnW2 ⊢
          clear hW2
          refine wp_region_flow [.free 0, .free 1, .free 2, .free 3, .free 4, .free 5, .free 6, .free 7, .free 8, .free 9, .free 10, .free 11, .free 12] (Below W2.heap.size W2) (Below W2.heap.size W2) (stable_below _ _ (Nat.le_refl _)) (fun _ h => h) (by kernel_rfl) (by kernel_rfl) (below_drew1 (Below.refl _ _)) ?_
          simp only [pickEnts, pickF, List.getElem?_cons_succ, List.getElem?_cons_zero, List.filterMap_cons, List.filterMap_nil, Option.map_some]
          repeat ((first | refine flow_calm (fun K hK => ?_) | refine flow_free (fun K hK => ?_) | refine float_calm (fun K hK => ?_) | refine float_free (fun K hK => ?_)); go_simp; first | (refine hK _ ?_; clear hK K) | (apply Exists.intro; (refine ⟨fun X => ?_, hK _ ?_⟩); (first | (intro hC; rfl) | rfl | (intro hC; skip; go_simp; done) | (intro hC; skip; go_simp; rfl)); clear hK K))
          refine flow_nil ?_
          intro X hX
          have hbX := hX.out
          have hnX := HnW2.out.later hbX
          clear hX
          have y0 := hnX.cell 0 _ rfl
          have y1 := hnX.cell 1 _ rfl
          have y2 := hnX.cell 2 _ rfl
          have y3 := hnX.cell 3 _ rfl
          have hBX : Below wa.heap.size wa X := HbW2.out.trans (Below.mono hbX HbW2.out.size)
          go_wp2_with (first
            | ((with_reducible refine at_upd rfl ?_); refine wpList_update_map evLaw Try.underlying132 _ rfl _ _ _ rfl wa.heap.size rfl (keyOf x.news) rfl (.int .i64 k) rfl (mapV iv E) (HmW2.out.later hbX).ev ?_; have hpm := (HmW2.out.later hbX).ne (Nat.lt_succ_self _) (aput (keyOf x.news) (k : Int) E); rw [← aput_mapV] at hpm))
          exact ⟨⟨k + 1, aput (keyOf x.news) (k : Int) E, M, by omega, by go_num, below_putMap hBX (by omega) _, hpm, Lib.hid ⟨HV.out.1.new Hx.out H3.out (.inl Hb.out), HV.out.2.said Hx.out H3.out⟩⟩, by simp [intOf]; omega⟩
        | some q =>
          have hq := evBest_lt _ _ _ _ hb
          have Hget := Lib.hid (show aget (keyOf x.news) (mapV iv E) = some (.int .i64 (q : Int)) by rw [aget_mapV, HV.out.1 (keyOf x.news), hb]; rfl)
          have Hb := Lib.hid hb
          clear hb
          obtain ⟨y, ad', -, -, hgy, hAd, f0, f1, f2, f3, f4, f5, f6, -⟩ := srec_at (Kd.C_below Hrow.out hB) q (by omega)
          cases hAd
          have Hy := Lib.hid (show (l[q]?.getD default).news.ver = y.news.ver by rw [hgy]; rfl)
          clear hgy
          have F := Lib.hid f3
          clear f0 f1 f2 f3 f4 f5 f6
          go_wp2_with (first
            | ((with_reducible refine at_lku rfl ?_); refine wpList_lookup_map evLaw Try.underlying132 (z := .int .i64 0) (fun w => by kernel_rfl) _ rfl _ _ _ rfl wa.heap.size rfl (keyOf x.news) rfl (mapV iv E) (HM.out.later (by repeat (first | exact Below.refl _ _ | assumption | apply below_alloc))).ev (some (.int .i64 (q : Int))) Hget.out ?_))
          have Hw2 := Lib.hid (show Below wr.heap.size wr ((wr.alloc (.cells #[.int .i64 x.news.do_, .int .i64 x.news.src, .int .i64 x.news.id, .int .i64 x.news.ver, .int .i64 x.news.body.at_, .int .i64 x.news.body.key, .int .i64 x.news.body.val, .int .i64 x.sum] 83)).alloc (.cells #[.int .i64 x.news.do_, .int .i64 x.news.src, .int .i64 x.news.id, .int .i64 x.news.ver, .int .i64 x.news.body.at_, .int .i64 x.news.body.key, .int .i64 x.news.body.val] 26)) from below_alloc (below_alloc (Below.refl _ _) _) _)
          generalize hW2 : ((wr.alloc (.cells #[.int .i64 x.news.do_, .int .i64 x.news.src, .int .i64 x.news.id, .int .i64 x.news.ver, .int .i64 x.news.body.at_, .int .i64 x.news.body.key, .int .i64 x.news.body.val, .int .i64 x.sum] 83)).alloc (.cells #[.int .i64 x.news.do_, .int .i64 x.news.src, .int .i64 x.news.id, .int .i64 x.news.ver, .int .i64 x.news.body.at_, .int .i64 x.news.body.key, .int .i64 x.news.body.val] 26)) = W2 at HbW2 HmW2 HnW2 Hw2 ⊢
          clear hW2
          have hqi : (0 : Int) ≤ (q : Int) := by omega
          have hqn : q < l.length := by omega
          cases hv : decide (y.news.ver < x.news.ver)
          all_goals
            refine wp_region_flow [.free 0, .free 1, .free 2, .free 3, .free 4, .free 5, .free 6, .free 7, .calm 8, .free 9, .calm 10, .free 11, .free 12] (Below W2.heap.size W2) (Below W2.heap.size W2) (stable_below _ _ (Nat.le_refl _)) (fun _ h => h) (by kernel_rfl) (by kernel_rfl) (below_drew1 (Below.refl _ _)) ?_
            simp only [pickEnts, pickF, List.getElem?_cons_succ, List.getElem?_cons_zero, List.filterMap_cons, List.filterMap_nil, Option.map_some]
            repeat ((first | refine flow_calm (fun K hK => ?_) | refine flow_free (fun K hK => ?_) | refine float_calm (fun K hK => ?_) | refine float_free (fun K hK => ?_)); go_simp; first | (refine hK _ ?_; clear hK K) | (apply Exists.intro; (refine ⟨fun X => ?_, hK _ ?_⟩); (first | (intro hC; rfl) | rfl | (intro hC; have hnX := HnW2.out.later hC.out; have y0 := hnX.cell 0 _ rfl; have y1 := hnX.cell 1 _ rfl; have y2 := hnX.cell 2 _ rfl; have y3 := hnX.cell 3 _ rfl; have y4 := hnX.cell 4 _ rfl; have z := cell_keep (Hw2.out.trans (Below.mono hC.out Hw2.out.size)) F.out; go_simp; done) | (intro hC; have hnX := HnW2.out.later hC.out; have y0 := hnX.cell 0 _ rfl; have y1 := hnX.cell 1 _ rfl; have y2 := hnX.cell 2 _ rfl; have y3 := hnX.cell 3 _ rfl; have y4 := hnX.cell 4 _ rfl; have z := cell_keep (Hw2.out.trans (Below.mono hC.out Hw2.out.size)) F.out; go_simp; rfl)); clear hK K))
          · refine flow_nil ?_
            intro X hX
            have hbX := hX.out
            clear hX
            have hBX : Below wa.heap.size wa X := HbW2.out.trans (Below.mono hbX HbW2.out.size)
            have hv : ¬ (l[q]?.getD default).news.ver < x.news.ver := by rw [Hy.out]; simpa using hv
            have HVn := Lib.hid (show EvMap l (k + 1) E ∧ MkMap l (k + 1) M from ⟨HV.out.1.old Hx.out Hb.out hv, HV.out.2.said Hx.out H3.out⟩)
            clear hv
            go_wp2
            exact ⟨⟨k + 1, E, M, by omega, by go_num, hBX, HmW2.out.later hbX, HVn⟩, by simp [intOf]; omega⟩
          · refine flow_nil ?_
            intro X hX
            have hbX := hX.out
            have hnX := HnW2.out.later hbX
            clear hX
            have y0 := hnX.cell 0 _ rfl
            have y1 := hnX.cell 1 _ rfl
            have y2 := hnX.cell 2 _ rfl
            have y3 := hnX.cell 3 _ rfl
            have hBX : Below wa.heap.size wa X := HbW2.out.trans (Below.mono hbX HbW2.out.size)
            have hv' : (l[q]?.getD default).news.ver < x.news.ver := by rw [Hy.out]; simpa using hv
            have HVn := Lib.hid (show EvMap l (k + 1) (aput (keyOf x.news) (k : Int) E) ∧ MkMap l (k + 1) (M) from ⟨HV.out.1.new Hx.out H3.out (.inr ⟨q, Hb.out, hv'⟩), HV.out.2.said Hx.out H3.out⟩)
            clear hv'
            go_wp2_with (first
              | ((with_reducible refine at_upd rfl ?_); refine wpList_update_map evLaw Try.underlying132 _ rfl _ _ _ rfl wa.heap.size rfl (keyOf x.news) rfl (.int .i64 k) rfl (mapV iv E) (HmW2.out.later hbX).ev ?_; have hpm := (HmW2.out.later hbX).ne (Nat.lt_succ_self _) (aput (keyOf x.news) (k : Int) E); rw [← aput_mapV] at hpm))
            exact ⟨⟨k + 1, aput (keyOf x.news) (k : Int) E, M, by omega, by go_num, below_putMap hBX (by omega) _, hpm, HVn⟩, by simp [intOf]; omega⟩
    · have hkl : k = l.length := by omega
      subst hkl
      have HMB := HM
      have hBE : wa.heap.size + 1 < wr.heap.size := (Array.getElem?_eq_some_iff.1 HM.out.mp).1
      clear hk hlt
      go_wp2
      generalize wr = wB at *
      go_loopw [15, 16, 98] (fun v _ i wr => ∃ k : Nat, k ≤ l.length ∧ i = .int .i64 k ∧ Own kSRec 83 wr wB.heap.size v (mergedUpto l k) ∧ Below wB.heap.size wB wr) (fun _ _ i _ => l.length - (intOf i).toNat)
      case atStart => exact ⟨0, Nat.zero_le _, rfl, Kd.R_nil _ _ _ _ _, Below.refl _ _⟩
      case round =>
        obtain ⟨k, hk, rfl, ho, hB2⟩ := hrel
        obtain ⟨A6, n6, c6, rfl⟩ := R_slice' ho
        by_cases hlt : k < l.length
        · obtain ⟨x, ad, -, -, hget, rfl, e0, e1, e2, e3, e4, e5, e6, e7⟩ := srec_at (Kd.C_below Hrow.out (below_base hB hB2 hB.size)) k hlt
          have Hx := Lib.hid hget
          have hml := mergedUpto_len l k
          have Ho6 := Lib.hid (Kd.R_below ho (below_alloc (Below.refl _ _) (.cells #[.int .i64 x.news.do_, .int .i64 x.news.src, .int .i64 x.news.id, .int .i64 x.news.ver, .int .i64 x.news.body.at_, .int .i64 x.news.body.key, .int .i64 x.news.body.val, .int .i64 x.sum] 83)))
          obtain ⟨ro, q, hro, hrq, hqe⟩ : ∃ (ro : Option Value) (q : Nat), aget (keyOf x.news) (mapV iv E) = ro ∧ ro.getD (.int .i64 0) = .int .i64 q ∧ q = (evBest l (keyOf x.news) l.length).getD 0 := by
            have hh : aget (keyOf x.news) (mapV iv E) = (evBest l (keyOf x.news) l.length).map fun i => iv (i : Int) := by rw [aget_mapV, HV.out.1 (keyOf x.news), Option.map_map]; rfl
            cases hb : evBest l (keyOf x.news) l.length with
            | none => exact ⟨_, 0, by rw [hh, hb], rfl, rfl⟩
            | some b => exact ⟨_, b, by rw [hh, hb], rfl, rfl⟩
          obtain ⟨rm, m, hrm, hrn, hme⟩ : ∃ (rm : Option Value) (m : Nat), aget x.news.src (mapV iv M) = rm ∧ rm.getD (.int .i64 0) = .int .i64 m ∧ m = (mkBest l x.news.src l.length).getD 0 := by
            have hh : aget x.news.src (mapV iv M) = (mkBest l x.news.src l.length).map fun i => iv (i : Int) := by rw [aget_mapV, HV.out.2 x.news.src, Option.map_map]; rfl
            cases hb : mkBest l x.news.src l.length with
            | none => exact ⟨_, 0, by rw [hh, hb], rfl, rfl⟩
            | some b => exact ⟨_, b, by rw [hh, hb], rfl, rfl⟩
          have Hro := Lib.hid hro
          have Hrq := Lib.hid hrq
          have Hrm := Lib.hid hrm
          have Hrn := Lib.hid hrn
          clear hget ho hro hrq hrm hrn
          by_cases h3 : x.news.do_ = 3
          · have h3b : (x.news.do_ == 3) = true := by simpa using h3
            have Hkp := Lib.hid (show keptI l x = m by rw [keptI, if_pos h3, hme])
            clear h3 hqe hme
            by_cases hqk : m = k
            · have b1 : ((m : Int) == (k : Int)) = true := by simp [hqk]
              have b2 : (m == k) = true := by simp [hqk]
              have Hup := Lib.hid (show mergedUpto l (k + 1) = mergedUpto l k ++ [x] by simp only [mergedUpto, Hx.out]; rw [if_pos (by rw [Hkp.out]; exact hqk)])
              clear hqk
              go_wp2_with (first
                | ((with_reducible refine at_lku rfl ?_); refine wpList_lookup_map evLaw Try.underlying132 (z := .int .i64 0) (fun w => by kernel_rfl) _ rfl _ _ _ rfl wa.heap.size rfl (keyOf x.news) rfl (mapV iv E) (HMB.out.later (by repeat (first | exact Below.refl _ _ | assumption | apply below_alloc))).ev ro Hro.out ?_; simp only [Bool.false_eq_true, if_false, Hrq.out])
                | ((with_reducible refine at_lku rfl ?_); refine wpList_lookup_map intLaw Try.underlying133 (z := .int .i64 0) (fun w => by kernel_rfl) _ rfl _ _ _ rfl (wa.heap.size + 1) rfl x.news.src rfl (mapV iv M) (HMB.out.later (by repeat (first | exact Below.refl _ _ | assumption | apply below_alloc))).mp rm Hrm.out ?_; simp only [Bool.false_eq_true, if_false, Hrn.out])
                | (at_builtin; refine Kd.R_append kSRec (w0 := wr.alloc (.cells #[.int .i64 x.news.do_, .int .i64 x.news.src, .int .i64 x.news.id, .int .i64 x.news.ver, .int .i64 x.news.body.at_, .int .i64 x.news.body.key, .int .i64 x.news.body.val, .int .i64 x.sum] 83)) wB.heap.size rfl _ _ 60 83 (.agg #[.int .i64 0, .int .i64 0, .int .i64 0, .int .i64 0, .int .i64 0, .int .i64 0, .int .i64 0, .int .i64 0]) 64 rfl (by kernel_rfl) (by kernel_rfl) rfl (by decide) (by omega) (.slice A6 n6 c6) (mergedUpto l k) x [.int .i64 x.news.do_, .int .i64 x.news.src, .int .i64 x.news.id, .int .i64 x.news.ver, .int .i64 x.news.body.at_, .int .i64 x.news.body.key, .int .i64 x.news.body.val, .int .i64 x.sum] (fun _ => True) (fun _ => False) rfl (by rw [World.size_alloc]; rfl) (kSRec_mkM _ _ _ _) (fun _ h => h.elim) (fun _ _ => trivial) Ho6.out (Below.refl _ _) (by have := hB2.size; simp; omega) (by omega) ?_; intro v1 w4 r1 r2 r3 r4))
              exact ⟨⟨k + 1, by omega, by go_num, by rw [Hup.out]; exact r1, (below_alloc hB2 _).trans (Below.mono r2 (Nat.le_refl _))⟩, by simp [intOf]; omega⟩
            · have b1 : ((m : Int) == (k : Int)) = false := by simp; omega
              have b2 : (m == k) = false := by simpa using hqk
              have Hup := Lib.hid (show mergedUpto l (k + 1) = mergedUpto l k by simp only [mergedUpto, Hx.out]; rw [if_neg (by rw [Hkp.out]; exact hqk)])
              clear hqk
              go_wp2_with (first
                | ((with_reducible refine at_lku rfl ?_); refine wpList_lookup_map evLaw Try.underlying132 (z := .int .i64 0) (fun w => by kernel_rfl) _ rfl _ _ _ rfl wa.heap.size rfl (keyOf x.news) rfl (mapV iv E) (HMB.out.later (by repeat (first | exact Below.refl _ _ | assumption | apply below_alloc))).ev ro Hro.out ?_; simp only [Bool.false_eq_true, if_false, Hrq.out])
                | ((with_reducible refine at_lku rfl ?_); refine wpList_lookup_map intLaw Try.underlying133 (z := .int .i64 0) (fun w => by kernel_rfl) _ rfl _ _ _ rfl (wa.heap.size + 1) rfl x.news.src rfl (mapV iv M) (HMB.out.later (by repeat (first | exact Below.refl _ _ | assumption | apply below_alloc))).mp rm Hrm.out ?_; simp only [Bool.false_eq_true, if_false, Hrn.out]))
              exact ⟨⟨k + 1, by omega, by go_num, by rw [Hup.out]; exact Ho6.out, below_alloc hB2 _⟩, by simp [intOf]; omega⟩
          · have h3b : (x.news.do_ == 3) = false := by simpa using h3
            have Hkp := Lib.hid (show keptI l x = q by rw [keptI, if_neg h3, hqe])
            clear h3 hqe hme
            by_cases hqk : q = k
            · have b1 : ((q : Int) == (k : Int)) = true := by simp [hqk]
              have b2 : (q == k) = true := by simp [hqk]
              have Hup := Lib.hid (show mergedUpto l (k + 1) = mergedUpto l k ++ [x] by simp only [mergedUpto, Hx.out]; rw [if_pos (by rw [Hkp.out]; exact hqk)])
              clear hqk
              go_wp2_with (first
                | ((with_reducible refine at_lku rfl ?_); refine wpList_lookup_map evLaw Try.underlying132 (z := .int .i64 0) (fun w => by kernel_rfl) _ rfl _ _ _ rfl wa.heap.size rfl (keyOf x.news) rfl (mapV iv E) (HMB.out.later (by repeat (first | exact Below.refl _ _ | assumption | apply below_alloc))).ev ro Hro.out ?_; simp only [Bool.false_eq_true, if_false, Hrq.out])
                | (at_builtin; refine Kd.R_append kSRec (w0 := wr.alloc (.cells #[.int .i64 x.news.do_, .int .i64 x.news.src, .int .i64 x.news.id, .int .i64 x.news.ver, .int .i64 x.news.body.at_, .int .i64 x.news.body.key, .int .i64 x.news.body.val, .int .i64 x.sum] 83)) wB.heap.size rfl _ _ 60 83 (.agg #[.int .i64 0, .int .i64 0, .int .i64 0, .int .i64 0, .int .i64 0, .int .i64 0, .int .i64 0, .int .i64 0]) 64 rfl (by kernel_rfl) (by kernel_rfl) rfl (by decide) (by omega) (.slice A6 n6 c6) (mergedUpto l k) x [.int .i64 x.news.do_, .int .i64 x.news.src, .int .i64 x.news.id, .int .i64 x.news.ver, .int .i64 x.news.body.at_, .int .i64 x.news.body.key, .int .i64 x.news.body.val, .int .i64 x.sum] (fun _ => True) (fun _ => False) rfl (by rw [World.size_alloc]; rfl) (kSRec_mkM _ _ _ _) (fun _ h => h.elim) (fun _ _ => trivial) Ho6.out (Below.refl _ _) (by have := hB2.size; simp; omega) (by omega) ?_; intro v1 w4 r1 r2 r3 r4))
              exact ⟨⟨k + 1, by omega, by go_num, by rw [Hup.out]; exact r1, (below_alloc hB2 _).trans (Below.mono r2 (Nat.le_refl _))⟩, by simp [intOf]; omega⟩
            · have b1 : ((q : Int) == (k : Int)) = false := by simp; omega
              have b2 : (q == k) = false := by simpa using hqk
              have Hup := Lib.hid (show mergedUpto l (k + 1) = mergedUpto l k by simp only [mergedUpto, Hx.out]; rw [if_neg (by rw [Hkp.out]; exact hqk)])
              clear hqk
              go_wp2_with (first
                | ((with_reducible refine at_lku rfl ?_); refine wpList_lookup_map evLaw Try.underlying132 (z := .int .i64 0) (fun w => by kernel_rfl) _ rfl _ _ _ rfl wa.heap.size rfl (keyOf x.news) rfl (mapV iv E) (HMB.out.later (by repeat (first | exact Below.refl _ _ | assumption | apply below_alloc))).ev ro Hro.out ?_; simp only [Bool.false_eq_true, if_false, Hrq.out]))
              exact ⟨⟨k + 1, by omega, by go_num, by rw [Hup.out]; exact Ho6.out, below_alloc hB2 _⟩, by simp [intOf]; omega⟩
        · have hkl : k = l.length := by omega
          have Hd := Lib.hid (show mergedUpto l k = mergedOf l by rw [hkl]; rfl)
          clear hkl
          go_wp2
          go_ret
          exact ⟨_, rfl, by rw [HLL.out, ← Hd.out]; exact Kd.R_lower ho (by have := hB.size; have := hBa.size; omega), hBa.trans (Below.mono (below_base hB hB2 hB.size) hBa.size)⟩
end Go.Proofs.Ytfmojgdomficlaa
set_option linter.unusedVariables false
set_option linter.unusedSimpArgs false
/-! A device merges. -/
namespace Go.Proofs.Ytfmojgdomficlaa
open Go.RowKit Go.Shelf Go.Proofs.YtfmojgdomficlaaW.PrintWords

def listAt (d : SDisk) (k : Nat) : Int := d.list[k]?.getD 0
def fileNo (d : SDisk) (no : Int) : SFile := fileAt d ((placeI no d.files 0).getD 0)
def mergeRecs (d : SDisk) (k : Nat) : List SRec := mergedOf ((fileNo d (listAt d k)).recs ++ (fileNo d (listAt d (k + 1))).recs)
def merge1D (d : SDisk) (k : Nat) : SDisk := freshD d (mergeRecs d k)
def merge2D (d : SDisk) (k : Nat) : SDisk := ⟨(merge1D d k).files, (d.list.take k ++ [lastNo d + 1]) ++ d.list.drop (k + 2)⟩
def merge3D (d : SDisk) (k : Nat) : SDisk := dropD (merge2D d k) fun no => !(no == listAt d k) && !(no == listAt d (k + 1))
def DiskPanic (h0 b : Nat) (d' : SDisk) (w : World) (e : Ending) (w' : World) : Prop := ∃ vf vl rs, e = .panicked [{ v := .iface 109 (.agg #[]), recovered := false }] ∧ DOwn h0 w' b vf vl rs d' ∧ Kp h0 w w'
theorem listAt_get {d : SDisk} {k : Nat} (h : k < d.list.length) : d.list[k]? = some (listAt d k) := by rw [listAt, List.getElem?_eq_getElem h]; rfl
theorem C_dropI {α : Type} {d : Kd α} {w : World} {A : Option Addr} {n : Nat} {l : List α} (h : Kd.C d w A n l) (m : Nat) (hm : m ≤ n) : Kd.C d w (A.map (·.add (m * d.sz))) (n - m) (l.drop m) := by
  obtain ⟨h1, h2, h3⟩ := h
  refine ⟨by rw [List.length_drop, h1], by omega, fun hp => ?_⟩
  obtain ⟨ad, e, hc⟩ := h3 (by omega)
  subst e
  refine ⟨_, rfl, fun j p hj => ?_⟩
  rw [List.getElem?_drop] at hj
  obtain ⟨c, hs, hr, hcell⟩ := hc (m + j) p hj
  refine ⟨c, hs, hr, fun i u hu => ?_⟩
  have := hcell i u hu
  rw [← this, Addr.add_add]
  congr 2
  rw [Nat.add_mul]; omega
set_option maxRecDepth 100000 in
set_option maxHeartbeats 8000000 in
/-- The step is refused. -/
theorem seg_merge_no (d : SDisk) (h0 : Nat) (b : Nat) (vf vl : Value) (rs : List RF) (k : Nat) (sdo stop : Int) (torn : Bool) (n : News) (w : World) (hd : DOwn h0 w b vf vl rs d) (hno : NoOk d) (hl : d.list.length ≤ 90000) (hh : h0 ≤ w.heap.size) (hn : d.list.length ≤ k + 2 ∨ fullB d = true) :
    Calls Try.prog 70 #[.pointer (some ⟨b, 0, none⟩), .agg #[.int .i64 sdo, .int .i64 k, .int .i64 stop, .bool torn, .int .i64 n.do_, .int .i64 n.src, .int .i64 n.id, .int .i64 n.ver, .int .i64 n.body.at_, .int .i64 n.body.key, .int .i64 n.body.val]] w (DiskPost h0 b false d w) := by
  obtain ⟨Af, cf, Al, cl, rfl, rfl, hda⟩ := hd.reads
  have Hd := Lib.hid hd
  have Hda := Lib.hid hda
  have Hno := Lib.hid hno
  have hwr := Lib.hid (show IntKind.i64.wrap ((d.list.length : Int) - 2) = (d.list.length : Int) - 2 from IntWalk.i64_in _ (by omega))
  have c1 := Lib.hid hda.c1
  clear hd hda hno
  have HS := Lib.hid (Cells.new w #[.int .i64 sdo, .int .i64 k, .int .i64 stop, .bool torn, .int .i64 n.do_, .int .i64 n.src, .int .i64 n.id, .int .i64 n.ver, .int .i64 n.body.at_, .int .i64 n.body.key, .int .i64 n.body.val] 58)
  have HB := Lib.hid (below_alloc (Below.refl w.heap.size w) (.cells #[.int .i64 sdo, .int .i64 k, .int .i64 stop, .bool torn, .int .i64 n.do_, .int .i64 n.src, .int .i64 n.id, .int .i64 n.ver, .int .i64 n.body.at_, .int .i64 n.body.key, .int .i64 n.body.val] 58))
  by_cases h2 : d.list.length ≤ k + 2
  · have h2b := Lib.hid (show decide ((d.list.length : Int) - 2 ≤ (k : Int)) = true by simp; omega)
    clear hn
    go_enter Try.func70, Try.ntmps70
    go_wp2
    generalize w.alloc (.cells #[.int .i64 sdo, .int .i64 k, .int .i64 stop, .bool torn, .int .i64 n.do_, .int .i64 n.src, .int .i64 n.id, .int .i64 n.ver, .int .i64 n.body.at_, .int .i64 n.body.key, .int .i64 n.body.val] 58) = w1 at HS HB ⊢
    refine wp_region_flow [.free 0, .calm 1, .free 2, .free 3, .free 4, .free 5, .calm 6, .free 7, .free 8, .free 9, .free 10, .free 11, .free 12, .free 13] (Below w1.heap.size w1) (Below w1.heap.size w1) (stable_below _ _ (Nat.le_refl _)) (fun _ h => h) (by kernel_rfl) (by kernel_rfl) (below_drew1 (Below.refl _ _)) ?_
    simp only [pickEnts, pickF, List.getElem?_cons_succ, List.getElem?_cons_zero, List.filterMap_cons, List.filterMap_nil, Option.map_some]
    repeat ((first | refine flow_calm (fun K hK => ?_) | refine flow_free (fun K hK => ?_) | refine float_calm (fun K hK => ?_) | refine float_free (fun K hK => ?_)); go_simp; (try simp only [hwr.out, h2b.out]); first | (refine hK _ ?_; clear hK K) | (apply Exists.intro; (refine ⟨fun X => ?_, hK _ ?_⟩); (first | (intro hC; rfl) | rfl | (intro hC; have x := HS.out.later hC.out; have q1 := x.cell 1 _ rfl; have q2 : X.cell? ⟨b, 1, none⟩ = _ := cell_keep (below_step HB.out hC.out) c1.out; go_simp; done) | (intro hC; have x := HS.out.later hC.out; have q1 := x.cell 1 _ rfl; have q2 : X.cell? ⟨b, 1, none⟩ = _ := cell_keep (below_step HB.out hC.out) c1.out; go_simp; rfl) | skip); clear hK K))
    refine flow_nil ?_
    intro X hX
    go_wp2
    go_ret
    have hB := below_step HB.out hX.out
    exact ⟨_, _, rs, rfl, Hd.out.later hB, Kp.of hB hh⟩
  · have h2b := Lib.hid (show decide ((d.list.length : Int) - 2 ≤ (k : Int)) = false by simp; omega)
    have Hfu := Lib.hid (hn.resolve_left h2)
    clear hn
    go_enter Try.func70, Try.ntmps70
    go_wp2
    generalize w.alloc (.cells #[.int .i64 sdo, .int .i64 k, .int .i64 stop, .bool torn, .int .i64 n.do_, .int .i64 n.src, .int .i64 n.id, .int .i64 n.ver, .int .i64 n.body.at_, .int .i64 n.body.key, .int .i64 n.body.val] 58) = w1 at HS HB ⊢
    refine wp_region_flow [.free 0, .calm 1, .free 2, .free 3, .free 4, .free 5, .calm 6, .free 7, .free 8, .free 9, .free 10, .free 11, .calm 12, .free 13] (Below w1.heap.size w1) (Below w1.heap.size w1) (stable_below _ _ (Nat.le_refl _)) (fun _ h => h) (by kernel_rfl) (by kernel_rfl) (below_drew1 (Below.refl _ _)) ?_
    simp only [pickEnts, pickF, List.getElem?_cons_succ, List.getElem?_cons_zero, List.filterMap_cons, List.filterMap_nil, Option.map_some]
    repeat ((first | refine flow_calm (fun K hK => ?_) | refine flow_free (fun K hK => ?_) | refine float_calm (fun K hK => ?_) | refine float_free (fun K hK => ?_)); go_simp; (try simp only [hwr.out, h2b.out]); first | (refine hK _ ?_; clear hK K) | (apply Exists.intro; (refine ⟨fun X => ?_, hK _ ?_⟩); (first | (intro hC; rfl) | rfl | (intro hC; have x := HS.out.later hC.out; have q1 := x.cell 1 _ rfl; have q2 : X.cell? ⟨b, 1, none⟩ = _ := cell_keep (below_step HB.out hC.out) c1.out; go_simp; done) | (intro hC; have x := HS.out.later hC.out; have q1 := x.cell 1 _ rfl; have q2 : X.cell? ⟨b, 1, none⟩ = _ := cell_keep (below_step HB.out hC.out) c1.out; go_simp; rfl) | (intro hC; (with_reducible refine (seg_full d b _ _ _ _ X (Hda.out.later (below_step HB.out hC.out)) Hno.out.ne).mono ?_); rintro e w' ⟨rfl, hb⟩; rw [Hfu.out]; exact ⟨rfl, hb⟩)); clear hK K))
    refine flow_nil ?_
    intro X hX
    go_wp2
    go_ret
    have hB := below_step HB.out hX.out
    exact ⟨_, _, rs, rfl, Hd.out.later hB, Kp.of hB hh⟩
/-- Boxes of a merge. -/
structure MBox (w : World) (B B5 B6 : Nat) (cs : Array Value) (x y : Int) (X : World) : Prop where
  step : Cells X B cs 58
  a : Cells X B5 #[.int .i64 x] 3
  b : Cells X B6 #[.int .i64 y] 3
  lo : w.heap.size ≤ B ∧ w.heap.size ≤ B5 ∧ w.heap.size ≤ B6
theorem MBox.later {w X X' : World} {B B5 B6 : Nat} {cs : Array Value} {x y : Int} (h : MBox w B B5 B6 cs x y X) (hb : Below X.heap.size X X') : MBox w B B5 B6 cs x y X' := ⟨h.step.later hb, h.a.later hb, h.b.later hb, h.lo⟩
theorem MBox.spares {w X X' : World} {B B5 B6 b : Nat} {vf : Value} {cs : Array Value} {x y : Int} (h : MBox w B B5 B6 cs x y X) (hs : Spares X X' vf b) (hbw : b < w.heap.size) (hvf : ∀ k, vf.ownBlock = some k → k < w.heap.size) : MBox w B B5 B6 cs x y X' := by
  obtain ⟨l1, l2, l3⟩ := h.lo
  exact ⟨hs.cells h.step (by omega) (fun e => by have := hvf _ e; omega), hs.cells h.a (by omega) (fun e => by have := hvf _ e; omega), hs.cells h.b (by omega) (fun e => by have := hvf _ e; omega), h.lo⟩
theorem MBox.far {w X : World} {B B5 B6 b j : Nat} {cs : Array Value} {x y : Int} (h : MBox w B B5 B6 cs x y X) (hbw : b < w.heap.size) (u : Value) : MBox w B B5 B6 cs x y (X.setCell ⟨b, j, none⟩ u) := by
  obtain ⟨l1, l2, l3⟩ := h.lo
  exact ⟨h.step.far (p := ⟨b, j, none⟩) (by simp; omega) u, h.a.far (p := ⟨b, j, none⟩) (by simp; omega) u, h.b.far (p := ⟨b, j, none⟩) (by simp; omega) u, h.lo⟩
def MergePost (h0 b : Nat) (d : SDisk) (k : Nat) (stop : Int) (w : World) (e : Ending) (w' : World) : Prop :=
  if stop = 1 then DiskPanic h0 b (merge1D d k) w e w' else if stop = 2 then DiskPanic h0 b (merge2D d k) w e w' else DiskPost h0 b true (merge3D d k) w e w'
set_option maxRecDepth 100000 in
set_option maxHeartbeats 8000000 in
theorem seg_merge_do (d : SDisk) (h0 : Nat) (b : Nat) (vf vl : Value) (rs : List RF) (k : Nat) (sdo stop : Int) (torn : Bool) (n : News) (w : World) (hd : DOwn h0 w b vf vl rs d) (hp : ∀ no ∈ d.list, (placeI no d.files 0).isSome = true) (hno : NoOk d) (hf : d.files.length ≤ 90000) (hrl : ∀ f ∈ d.files, f.recs.length ≤ 100000) (hl : d.list.length ≤ 90000) (hh : h0 ≤ w.heap.size) (hk : k + 2 < d.list.length) (hfu : fullB d = false) :
    Calls Try.prog 70 #[.pointer (some ⟨b, 0, none⟩), .agg #[.int .i64 sdo, .int .i64 k, .int .i64 stop, .bool torn, .int .i64 n.do_, .int .i64 n.src, .int .i64 n.id, .int .i64 n.ver, .int .i64 n.body.at_, .int .i64 n.body.key, .int .i64 n.body.val]] w (MergePost h0 b d k stop w) := by
  obtain ⟨ia, hia⟩ := Option.isSome_iff_exists.1 (hp _ (List.mem_of_getElem? (listAt_get (d := d) (k := k) (by omega))))
  obtain ⟨ib, hib⟩ := Option.isSome_iff_exists.1 (hp _ (List.mem_of_getElem? (listAt_get (d := d) (k := k + 1) (by omega))))
  have hm : mergeRecs d k = mergedOf ((fileAt d ia).recs ++ (fileAt d ib).recs) := by rw [mergeRecs, fileNo, fileNo, hia, hib]; rfl
  have hial : ia < d.files.length := by obtain ⟨_, f, h1, _⟩ := placeI_spec _ d.files 0 ia hia; exact (List.getElem?_eq_some_iff.1 h1).1
  have hibl : ib < d.files.length := by obtain ⟨_, f, h1, _⟩ := placeI_spec _ d.files 0 ib hib; exact (List.getElem?_eq_some_iff.1 h1).1
  have hal := hrl _ (List.mem_of_getElem? (fileAt_get hial))
  have hbl := hrl _ (List.mem_of_getElem? (fileAt_get hibl))
  obtain ⟨ra, hra⟩ : ∃ r, rs[ia]? = some r := ⟨_, List.getElem?_eq_getElem (by rw [hd.rows.len]; exact hial)⟩
  obtain ⟨rb, hrb⟩ : ∃ r, rs[ib]? = some r := ⟨_, List.getElem?_eq_getElem (by rw [hd.rows.len]; exact hibl)⟩
  obtain ⟨-, -, a3⟩ := hd.rows.rel ia ra _ hra (fileAt_get hial)
  obtain ⟨-, -, b3⟩ := hd.rows.rel ib rb _ hrb (fileAt_get hibl)
  obtain ⟨g, cf, rfl, hg0, hgl, A0, A1, A2, -⟩ := hd.cells hra
  obtain ⟨g', cf', e', -, -, B0, B1, B2, -⟩ := hd.cells hrb
  injection e' with e1
  injection e1 with e1
  injection e1 with e1
  subst e1
  obtain ⟨Af, cf', Al, cl, hvf, rfl, hda⟩ := hd.reads
  injection hvf with e1 e2 e3
  subst e1 e3
  obtain ⟨ano, aA, an, ac, asafe⟩ := ra
  obtain ⟨bno, bA, bn, bc, bsafe⟩ := rb
  obtain ⟨A', c', he, hac, haow⟩ := own_reads' a3
  obtain rfl : an = (fileAt d ia).recs.length := by injection he
  obtain rfl : ac = c' := by injection he
  obtain rfl : aA = A' := by injection he
  obtain ⟨A', c', he', hbc, hbow⟩ := own_reads' b3
  obtain rfl : bn = (fileAt d ib).recs.length := by injection he'
  obtain rfl : bc = c' := by injection he'
  obtain rfl : bA = A' := by injection he'
  obtain ⟨al, rfl, -⟩ := int_cell hda.list k _ (listAt_get (by omega)) rfl
  have hbw := World.block_lt_of_cell? w _ hda.c1
  have hcl := hda.capl
  have Hd := Lib.hid hd
  have Hda := Lib.hid hda
  have Hno := Lib.hid hno
  have Hfu := Lib.hid hfu
  have Hm := Lib.hid hm
  have Hia := Lib.hid hia
  have Hib := Lib.hid hib
  have Har := Lib.hid haow
  have Hbr := Lib.hid hbow
  have HA0 := Lib.hid (show w.cell? ⟨g, ia * 3, none⟩ = some (.int .i64 ano) from A0)
  have HA1 := Lib.hid (show w.cell? ⟨g, ia * 3 + 1, none⟩ = some (.slice aA (fileAt d ia).recs.length ac) from A1)
  have HA2 := Lib.hid (show w.cell? ⟨g, ia * 3 + 2, none⟩ = some (.int .i64 asafe) from A2)
  have HB0 := Lib.hid (show w.cell? ⟨g, ib * 3, none⟩ = some (.int .i64 bno) from B0)
  have HB1 := Lib.hid (show w.cell? ⟨g, ib * 3 + 1, none⟩ = some (.slice bA (fileAt d ib).recs.length bc) from B1)
  have HB2 := Lib.hid (show w.cell? ⟨g, ib * 3 + 2, none⟩ = some (.int .i64 bsafe) from B2)
  obtain ⟨k1, hk1⟩ : ∃ k1, k1 = k + 1 := ⟨_, rfl⟩
  obtain ⟨k2, hk2⟩ : ∃ k2, k2 = k + 2 := ⟨_, rfl⟩
  have hxa : ∀ W, DAt W b (some ⟨g, 0, none⟩) cf (some al) cl d → W.cell? (al.add k) = some (.int .i64 (listAt d k)) ∧ W.cell? (al.add k1) = some (.int .i64 (listAt d k1)) := fun W h => by
    obtain ⟨a2, e, hc⟩ := int_cell h.list _ _ (listAt_get (d := d) (k := k) (by omega)) rfl
    obtain ⟨a3, e3, hc3⟩ := int_cell h.list _ _ (listAt_get (d := d) (k := k1) (by omega)) rfl
    cases e; cases e3; exact ⟨hc, hc3⟩
  have Hxa := Lib.hid hxa
  have hwr := Lib.hid (show IntKind.i64.wrap ((d.list.length : Int) - 2) = (d.list.length : Int) - 2 from IntWalk.i64_in _ (by omega))
  have hw1 := Lib.hid (show IntKind.i64.wrap ((k : Int) + 1) = (k1 : Int) from by rw [IntWalk.i64_in _ (by omega)]; omega)
  have hw2 := Lib.hid (show IntKind.i64.wrap ((k : Int) + 2) = (k2 : Int) from by rw [IntWalk.i64_in _ (by omega)]; omega)
  have h2b := Lib.hid (show decide ((d.list.length : Int) - 2 ≤ (k : Int)) = false by simp; omega)
  have hklt : k < d.list.length := by omega
  have hk1lt : k1 < d.list.length := by omega
  have hk2lt : k2 < d.list.length := by omega
  have hk2le : k2 ≤ d.list.length := by omega
  have Hk1 := Lib.hid hk1
  have Hk2 := Lib.hid hk2
  clear hk1 hk2
  clear hd hda hno hfu hm hia hib haow hbow A0 A1 A2 B0 B1 B2 a3 b3 he he' hra hrb hxa hp
  have HS := Lib.hid (Cells.new w #[.int .i64 sdo, .int .i64 k, .int .i64 stop, .bool torn, .int .i64 n.do_, .int .i64 n.src, .int .i64 n.id, .int .i64 n.ver, .int .i64 n.body.at_, .int .i64 n.body.key, .int .i64 n.body.val] 58)
  have HB := Lib.hid (below_alloc (Below.refl w.heap.size w) (.cells #[.int .i64 sdo, .int .i64 k, .int .i64 stop, .bool torn, .int .i64 n.do_, .int .i64 n.src, .int .i64 n.id, .int .i64 n.ver, .int .i64 n.body.at_, .int .i64 n.body.key, .int .i64 n.body.val] 58))
  go_enter Try.func70, Try.ntmps70
  go_wp2
  generalize w.alloc (.cells #[.int .i64 sdo, .int .i64 k, .int .i64 stop, .bool torn, .int .i64 n.do_, .int .i64 n.src, .int .i64 n.id, .int .i64 n.ver, .int .i64 n.body.at_, .int .i64 n.body.key, .int .i64 n.body.val] 58) = w1 at HS HB ⊢
  refine wp_region_flow [.free 0, .calm 1, .free 2, .free 3, .free 4, .free 5, .calm 6, .free 7, .free 8, .free 9, .free 10, .free 11, .calm 12, .free 13] (Below w1.heap.size w1) (Below w1.heap.size w1) (stable_below _ _ (Nat.le_refl _)) (fun _ h => h) (by kernel_rfl) (by kernel_rfl) (below_drew1 (Below.refl _ _)) ?_
  simp only [pickEnts, pickF, List.getElem?_cons_succ, List.getElem?_cons_zero, List.filterMap_cons, List.filterMap_nil, Option.map_some]
  repeat ((first | refine flow_calm (fun K hK => ?_) | refine flow_free (fun K hK => ?_) | refine float_calm (fun K hK => ?_) | refine float_free (fun K hK => ?_)); go_simp; (try simp only [hwr.out, h2b.out]); first | (refine hK _ ?_; clear hK K) | (apply Exists.intro; (refine ⟨fun X => ?_, hK _ ?_⟩); (first | (intro hC; rfl) | rfl | (intro hC; have x := HS.out.later hC.out; have q1 := x.cell 1 _ rfl; have q2 : X.cell? ⟨b, 1, none⟩ = _ := cell_keep (below_step HB.out hC.out) Hda.out.c1; go_simp; done) | (intro hC; have x := HS.out.later hC.out; have q1 := x.cell 1 _ rfl; have q2 : X.cell? ⟨b, 1, none⟩ = _ := cell_keep (below_step HB.out hC.out) Hda.out.c1; go_simp; rfl) | (intro hC; (with_reducible refine (seg_full d b _ _ _ _ X (Hda.out.later (below_step HB.out hC.out)) Hno.out.ne).mono ?_); rintro e w' ⟨rfl, hb⟩; rw [Hfu.out]; exact ⟨rfl, hb⟩)); clear hK K))
  refine flow_nil ?_
  intro w2 hw2'
  have HS2 := Lib.hid (HS.out.later hw2'.out)
  have HB2' := Lib.hid (below_step HB.out hw2'.out)
  clear hw2' HS HB
  go_wp2
  refine wp_region_flow [.free 0, .free 1, .free 2, .free 3, .calm 4, .free 5, .calm 6, .free 7, .calm 8, .free 9, .free 10, .free 11, .free 12, .calm 13, .free 14, .calm 15, .free 16, .free 17, .calm 18, .group [19, 20], .alone 21, .fence 22] (Below w2.heap.size w2) (Below w2.heap.size w2) (stable_below _ _ (Nat.le_refl _)) (fun _ h => h) (by kernel_rfl) (by kernel_rfl) (below_drew1 (Below.refl _ _)) ?_
  simp only [pickEnts, pickF, List.getElem?_cons_succ, List.getElem?_cons_zero, List.filterMap_cons, List.filterMap_nil, Option.map_some]
  repeat ((first | refine flow_calm (fun K hK => ?_) | refine flow_free (fun K hK => ?_) | refine float_calm (fun K hK => ?_) | refine float_free (fun K hK => ?_)); go_simp; (try simp only [hw1.out]); first | (refine hK _ ?_; clear hK K) | (apply Exists.intro; (refine ⟨fun X => ?_, hK _ ?_⟩); (first | (intro hC; rfl) | rfl | (intro hC; have x := HS2.out.later hC.out; have q1 := x.cell 1 _ rfl; have q2 : X.cell? ⟨b, 1, none⟩ = _ := cell_keep (below_step HB2'.out hC.out) Hda.out.c1; obtain ⟨q3, q4⟩ := Hxa.out X (Hda.out.later (below_step HB2'.out hC.out)); go_simp; done) | (intro hC; have x := HS2.out.later hC.out; have q1 := x.cell 1 _ rfl; have q2 : X.cell? ⟨b, 1, none⟩ = _ := cell_keep (below_step HB2'.out hC.out) Hda.out.c1; obtain ⟨q3, q4⟩ := Hxa.out X (Hda.out.later (below_step HB2'.out hC.out)); go_simp; rfl) | skip); clear hK K))
  refine flow_twoR (fun v X => ∃ B, v = .pointer (some ⟨B, 0, none⟩) ∧ w2.heap.size ≤ B ∧ Cells X B #[.int .i64 0] 3) (fun v X => ∃ B, v = .pointer (some ⟨B, 0, none⟩) ∧ w2.heap.size ≤ B ∧ Cells X B #[.int .i64 0] 3) (fun X u => ∀ B, u = .pointer (some ⟨B, 0, none⟩) → X.heap.size ≤ B) (fun v u => ∀ B B', v = .pointer (some ⟨B, 0, none⟩) → u = .pointer (some ⟨B', 0, none⟩) → B ≠ B')
    (fun _ _ _ h hb => by obtain ⟨B, h1, h2, h3⟩ := h; exact ⟨B, h1, h2, h3.later hb⟩) (fun _ _ _ h hb => by obtain ⟨B, h1, h2, h3⟩ := h; exact ⟨B, h1, h2, h3.later hb⟩) (by decide)
    (fun v u X h hn => by obtain ⟨B, rfl, h2, h3⟩ := h; exact ⟨fun B1 B2 e1 e2 => by have := hn _ e2; have := h3.lt; cases e1; omega, fun B1 B2 e1 e2 => by have := hn _ e1; have := h3.lt; cases e2; omega⟩)
    (fun v u X h hn => by obtain ⟨B, rfl, h2, h3⟩ := h; exact ⟨fun B1 B2 e1 e2 => by have := hn _ e2; have := h3.lt; cases e1; omega, fun B1 B2 e1 e2 => by have := hn _ e1; have := h3.lt; cases e2; omega⟩)
    ⟨rfl, fun X hX => ?_⟩ ⟨rfl, fun X hX => ?_⟩ (fun v u X0 hX0 hV0 hU0 hR => ?_)
  iterate 2
    · go_simp
      exact ⟨below_alloc (Below.refl _ _) _, hX.out.size, Cells.new _ _ _⟩
  obtain ⟨B5, rfl, h5, -⟩ := hV0
  obtain ⟨B6, rfl, h6, -⟩ := hU0
  have h56 : B5 ≠ B6 := hR _ _ rfl rfl
  clear hX0 hR
  refine flow_alone rfl (fun X hX K hK => ?_)
  obtain ⟨hb, ⟨_, e5, -, hc5⟩, ⟨_, e6, -, hc6⟩⟩ := hX.out
  cases e5
  cases e6
  have q0 := hc5.cell 0 _ rfl
  have qf := hc5.frozen 0
  go_simp
  refine hK.out _ _ (fun Z => Below w2.heap.size w2 Z ∧ Cells Z B5 #[.int .i64 (listAt d k)] 3 ∧ Cells Z B6 #[.int .i64 0] 3) (fun Z => Below w2.heap.size w2 Z ∧ Cells Z B5 #[.int .i64 (listAt d k)] 3 ∧ Cells Z B6 #[.int .i64 0] 3) (fun Z Z' hZ hb => ⟨below_step hZ.1 hb, hZ.2.1.later hb, hZ.2.2.later hb⟩) (fun _ h => h.1) (fun _ h => h) ⟨hb.setCell (p := ⟨B5, 0, none⟩) h5 _, hc5.set _, hc6.far (p := ⟨B5, 0, none⟩) (Ne.symm h56) _⟩ ?_
  clear hK K hX hb hc5 hc6 q0 qf
  refine flow_fence rfl (fun X hX K hK => ?_)
  obtain ⟨hb, hc5, hc6⟩ := hX.out
  have q0 := hc6.cell 0 _ rfl
  have qf := hc6.frozen 0
  go_simp
  refine hK.out _ _ (fun Z => Below w2.heap.size w2 Z ∧ Cells Z B5 #[.int .i64 (listAt d k)] 3 ∧ Cells Z B6 #[.int .i64 (listAt d k1)] 3) (fun Z => Below w2.heap.size w2 Z ∧ Cells Z B5 #[.int .i64 (listAt d k)] 3 ∧ Cells Z B6 #[.int .i64 (listAt d k1)] 3) (fun Z Z' hZ hb => ⟨below_step hZ.1 hb, hZ.2.1.later hb, hZ.2.2.later hb⟩) (fun _ h => h) ⟨hb.setCell (p := ⟨B6, 0, none⟩) h6 _, hc5.far (p := ⟨B6, 0, none⟩) h56 _, hc6.set _⟩ ?_
  clear hK K hX hb hc5 hc6 q0 qf
  refine flow_nil ?_
  intro w3 hX
  obtain ⟨hb3, hc5, hc6⟩ := hX.out
  have HB3 := Lib.hid (below_step HB2'.out hb3)
  have HM3 := Lib.hid (show MBox w w.heap.size B5 B6 #[.int .i64 sdo, .int .i64 k, .int .i64 stop, .bool torn, .int .i64 n.do_, .int .i64 n.src, .int .i64 n.id, .int .i64 n.ver, .int .i64 n.body.at_, .int .i64 n.body.key, .int .i64 n.body.val] (listAt d k) (listAt d k1) w3 from ⟨HS2.out.later hb3, hc5, hc6, Nat.le_refl _, Nat.le_trans HB2'.out.size h5, Nat.le_trans HB2'.out.size h6⟩)
  clear hX hb3 hc5 hc6 HB2' HS2 h5 h6 h56
  have HAd := Lib.hid (show ∀ n, (⟨g, 0, none⟩ : Addr).add n = ⟨g, n, none⟩ from fun n => by rw [add_plain])
  go_wp2
  refine wp_region_flow [.free 0, .free 1, .calm 2, .calm 3, .free 4, .calm 5, .free 6, .calm 7, .calm 8, .free 9, .calm 10, .group [11], .fence 12, .free 13] (Below w3.heap.size w3) (Below w3.heap.size w3) (stable_below _ _ (Nat.le_refl _)) (fun _ h => h) (by kernel_rfl) (by kernel_rfl) (below_drew1 (Below.refl _ _)) ?_
  simp only [pickEnts, pickF, List.getElem?_cons_succ, List.getElem?_cons_zero, List.filterMap_cons, List.filterMap_nil, Option.map_some]
  repeat ((first | refine flow_calm (fun K hK => ?_) | refine flow_free (fun K hK => ?_) | refine float_calm (fun K hK => ?_) | refine float_free (fun K hK => ?_)); go_simp; first | (refine hK _ ?_; clear hK K) | (apply Exists.intro; (refine ⟨fun X => ?_, hK _ ?_⟩); (first | (intro hC; rfl) | rfl | (intro hC; have hq := HM3.out.later hC.out; have q1 := hq.a.cell 0 _ rfl; have q2 := hq.b.cell 0 _ rfl; have q3 : X.cell? ⟨g, ia * 3, none⟩ = _ := cell_keep (below_step HB3.out hC.out) HA0.out; have q4 : X.cell? ⟨g, ia * 3 + 1, none⟩ = _ := cell_keep (below_step HB3.out hC.out) HA1.out; have q5 : X.cell? ⟨g, ia * 3 + 2, none⟩ = _ := cell_keep (below_step HB3.out hC.out) HA2.out; have q6 : X.cell? ⟨g, ib * 3, none⟩ = _ := cell_keep (below_step HB3.out hC.out) HB0.out; have q7 : X.cell? ⟨g, ib * 3 + 1, none⟩ = _ := cell_keep (below_step HB3.out hC.out) HB1.out; have q8 : X.cell? ⟨g, ib * 3 + 2, none⟩ = _ := cell_keep (below_step HB3.out hC.out) HB2.out; go_simp; done) | (intro hC; have hq := HM3.out.later hC.out; have q1 := hq.a.cell 0 _ rfl; have q2 := hq.b.cell 0 _ rfl; have q3 : X.cell? ⟨g, ia * 3, none⟩ = _ := cell_keep (below_step HB3.out hC.out) HA0.out; have q4 : X.cell? ⟨g, ia * 3 + 1, none⟩ = _ := cell_keep (below_step HB3.out hC.out) HA1.out; have q5 : X.cell? ⟨g, ia * 3 + 2, none⟩ = _ := cell_keep (below_step HB3.out hC.out) HA2.out; have q6 : X.cell? ⟨g, ib * 3, none⟩ = _ := cell_keep (below_step HB3.out hC.out) HB0.out; have q7 : X.cell? ⟨g, ib * 3 + 1, none⟩ = _ := cell_keep (below_step HB3.out hC.out) HB1.out; have q8 : X.cell? ⟨g, ib * 3 + 2, none⟩ = _ := cell_keep (below_step HB3.out hC.out) HB2.out; go_simp; rfl) | (intro hC; (with_reducible refine (seg_file d b ⟨g, 0, none⟩ _ _ _ (listAt d k) ia X Hia.out (Hda.out.later (below_step HB3.out hC.out))).mono ?_); rintro e w' ⟨rfl, hb⟩; rw [HAd.out]; exact ⟨rfl, hb⟩) | (intro hC; (with_reducible refine (seg_file d b ⟨g, 0, none⟩ _ _ _ (listAt d k1) ib X (Hk1.out ▸ Hib.out) (Hda.out.later (below_step HB3.out hC.out))).mono ?_); rintro e w' ⟨rfl, hb⟩; rw [HAd.out]; exact ⟨rfl, hb⟩)); clear hK K))
  refine flow_one (fun v X => Own kSRec 83 X w3.heap.size v (mergedOf ((fileAt d ia).recs ++ (fileAt d ib).recs))) (fun _ _ _ h hb => Kd.R_below h hb) ⟨rfl, fun X hX => ?_⟩ (fun v X0 hX0 hV0 => ?_)
  · go_simp
    refine ⟨Below.refl _ _, (seg_merged ano bno asafe bsafe aA bA (fileAt d ia).recs (fileAt d ib).recs ac bc X (Kd.C_below Har.out (below_step HB3.out hX.out)) (Kd.C_below Hbr.out (below_step HB3.out hX.out)) hac hbc hal hbl).mono ?_⟩
    rintro e w' ⟨v, rfl, h1, h2⟩
    exact ⟨v, rfl, h2, Kd.R_lower h1 hX.out.size⟩
  obtain ⟨Am, nm, cm, rfl⟩ := R_slice' hV0
  clear hX0 hV0
  refine flow_fence rfl (fun X hX K hK => ?_)
  obtain ⟨hb, hown⟩ := hX.out
  have hBX := below_step HB3.out hb
  go_simp
  refine (seg_fresh d h0 b _ _ rs Am nm cm (mergedOf ((fileAt d ia).recs ++ (fileAt d ib).recs)) X (Hd.out.later hBX) Hno.out (by omega) (Kd.R_lower hown (by have := HB3.out.size; omega)) (fun s hs j hj e => by
    obtain ⟨-, c, hc⟩ := Hd.out.rows.typed hs hj
    have h1 := (Array.getElem?_eq_some_iff.1 hc).1
    have h2 := (own_ty hown e).1
    have := HB3.out.size
    omega) (Nat.le_trans hh hBX.size)).mono ?_
  rintro e w4 ⟨vf', rs', rfl, hD4, hB4, hS4⟩
  rw [← Hm.out] at hD4
  have hB40 : Kp h0 w w4 := (Kp.of hBX hh).spares hB4 hS4 (Hd.out.later hBX).mineB (Hd.out.later hBX).mineV
  refine hK.out _ _ (fun Z => DOwn h0 Z b vf' (.slice (some al) d.list.length cl) rs' (merge1D d k) ∧ Kp h0 w Z ∧ h0 ≤ Z.heap.size ∧ MBox w w.heap.size B5 B6 #[.int .i64 sdo, .int .i64 k, .int .i64 stop, .bool torn, .int .i64 n.do_, .int .i64 n.src, .int .i64 n.id, .int .i64 n.ver, .int .i64 n.body.at_, .int .i64 n.body.key, .int .i64 n.body.val] (listAt d k) (listAt d k1) Z) (fun Z => DOwn h0 Z b vf' (.slice (some al) d.list.length cl) rs' (merge1D d k) ∧ Kp h0 w Z ∧ h0 ≤ Z.heap.size ∧ MBox w w.heap.size B5 B6 #[.int .i64 sdo, .int .i64 k, .int .i64 stop, .bool torn, .int .i64 n.do_, .int .i64 n.src, .int .i64 n.id, .int .i64 n.ver, .int .i64 n.body.at_, .int .i64 n.body.key, .int .i64 n.body.val] (listAt d k) (listAt d k1) Z) (fun Z Z' hZ hb => ⟨hZ.1.later hb, hZ.2.1.later hb hZ.2.2.1, Nat.le_trans hZ.2.2.1 hb.size, hZ.2.2.2.later hb⟩) (fun _ h => h) ⟨hD4, hB40, by have := hB40.size; omega, (HM3.out.later hb).spares hS4 hbw (fun j hj => by cases hj; exact hgl)⟩ ?_
  clear hK K hX hD4 hB4 hB40 hS4 hb hown hBX w4
  repeat ((first | refine flow_calm (fun K hK => ?_) | refine flow_free (fun K hK => ?_) | refine float_calm (fun K hK => ?_) | refine float_free (fun K hK => ?_)); go_simp; first | (refine hK _ ?_; clear hK K) | (apply Exists.intro; (refine ⟨fun X => ?_, hK _ ?_⟩); (first | (intro hC; rfl) | rfl | (intro hC; skip; go_simp; done) | (intro hC; skip; go_simp; rfl)); clear hK K))
  refine flow_nil ?_
  intro w4 hX
  obtain ⟨hD4, hB4, hz4, hM4⟩ := hX.out
  have HD4 := Lib.hid hD4
  have HB4 := Lib.hid hB4
  have HM4 := Lib.hid hM4
  clear hX HB3 HM3 hD4 hB4 hM4 HA0 HA1 HA2 HB0 HB1 HB2 Har Hbr Hda Hd
  have q2 := HM4.out.step.cell 2 _ rfl
  by_cases hs1 : stop = 1
  · subst hs1
    go_wp2
    refine ⟨rfl, ?_⟩
    rw [MergePost, if_pos rfl]
    exact ⟨_, _, _, rfl, HD4.out, HB4.out⟩
  · have hs1b : (stop == 1) = false := by simpa using hs1
    obtain ⟨Af4, cf4, Al4, cl4, hvf4, hvl4, hda4⟩ := HD4.out.reads
    injection hvl4 with e1 e2 e3
    subst e1 e3
    have Hl4 := Lib.hid (show Kd.C (Kd.int .i64) w4 (some al) d.list.length d.list from hda4.list)
    have C14 := Lib.hid (show w4.cell? ⟨b, 1, none⟩ = some (.slice (some al) d.list.length cl) from hda4.c1)
    have hkcl : k ≤ cl := by omega
    have htl : (d.list.take k).length = k := by rw [List.length_take]; omega
    have hdl : (d.list.drop k2).length = d.list.length - k2 := List.length_drop
    have hck : ¬ (cl = k2) := by omega
    clear hda4 hvf4 e2
    go_wp2
    refine wp_region_flow [.free 0, .free 1, .free 2, .free 3, .free 4, .calm 5, .free 6, .calm 7, .free 8, .free 10, .free 13, .free 14, .free 15, .free 16, .calm 17, .free 18, .calm 19, .free 20, .free 21, .group [9, 11], .alone 12, .fence 22, .free 23, .free 24, .free 25, .fence 26] (Below w4.heap.size w4) (Below w4.heap.size w4) (stable_below _ _ (Nat.le_refl _)) (fun _ h => h) (by kernel_rfl) (by kernel_rfl) (below_drew1 (Below.refl _ _)) ?_
    simp only [pickEnts, pickF, List.getElem?_cons_succ, List.getElem?_cons_zero, List.filterMap_cons, List.filterMap_nil, Option.map_some]
    repeat ((first | refine flow_calm (fun K hK => ?_) | refine flow_free (fun K hK => ?_) | refine float_calm (fun K hK => ?_) | refine float_free (fun K hK => ?_)); go_simp; (try simp only [hw2.out]); first | (refine hK _ ?_; clear hK K) | (apply Exists.intro; (refine ⟨fun X => ?_, hK _ ?_⟩); (first | (intro hC; rfl) | rfl | (intro hC; have hq := HM4.out.later hC.out; have q1 := hq.step.cell 1 _ rfl; have q3 : X.cell? ⟨b, 1, none⟩ = _ := cell_keep hC.out C14.out; go_simp; done) | (intro hC; have hq := HM4.out.later hC.out; have q1 := hq.step.cell 1 _ rfl; have q3 : X.cell? ⟨b, 1, none⟩ = _ := cell_keep hC.out C14.out; go_simp; rfl) | skip); clear hK K))
    refine flow_two (fun v X => Own (Kd.int .i64) 3 X w4.heap.size v (d.list.take k)) (fun v X => ∃ B, v = .slice (some ⟨B, 0, none⟩) 1 1 ∧ Cells X B #[.int .i64 (lastNo d + 1)] 3) (fun _ _ _ h hb => Kd.R_below h hb) (fun _ _ _ h hb => by obtain ⟨B, h1, h2⟩ := h; exact ⟨B, h1, h2.later hb⟩) (by decide) ⟨rfl, fun X hX => ?_⟩ ⟨rfl, fun X hX => ?_⟩ (fun v u X0 hX0 hV0 hU0 => ?_)
    · go_simp
      have h := seg_copied_int (d.list.take k) (some al) cl X (Kd.C_take (Kd.C_below Hl4.out hX.out) (Nat.le_of_lt hklt)) (by rw [htl]; omega)
      rw [htl] at h
      refine ⟨Below.refl _ _, h.mono ?_⟩
      rintro e w' ⟨v, rfl, h1, h2⟩
      exact ⟨v, rfl, h2, Kd.R_lower h1 hX.out.size⟩
    · go_simp
      exact ⟨below_alloc (Below.refl _ _) _, Cells.new _ _ _⟩
    obtain ⟨A3, n3, c3, rfl⟩ := R_slice' hV0
    obtain ⟨B, rfl, -⟩ := hU0
    clear hX0 hV0
    refine flow_alone rfl (fun X hX K hK => ?_)
    obtain ⟨hb, hown, B', hB', hcB⟩ := hX.out
    cases hB'
    refine Kd.R_append_rows_step (Kd.int .i64) (w0 := X) w4.heap.size (by rfl) (.tmp 68) (.tmp 70) 31 3 (.int .i64 0) 8 rfl (by kernel_rfl) (by kernel_rfl) rfl (by decide) (by omega) (.slice A3 n3 c3) (d.list.take k) [lastNo d + 1] _ _ _ (fun _ => True) (fun _ => False) rfl rfl hown (lit_row (Kd.int .i64) X B (lastNo d + 1) [.int .i64 (lastNo d + 1)] 3 hcB rfl) (fun x cs h => h) (fun _ h => h.elim) (fun _ _ => trivial) (Below.refl _ _) hb.size (by omega) ?_
    intro v1 w5 r1 r2 r3 r4
    obtain ⟨A6, n6, c6, rfl⟩ := R_slice' r1
    refine hK.out _ _ (fun Z => Below w4.heap.size w4 Z ∧ Own (Kd.int .i64) 3 Z w4.heap.size (.slice A6 n6 c6) (d.list.take k ++ [lastNo d + 1])) (fun Z => Below w4.heap.size w4 Z ∧ Own (Kd.int .i64) 3 Z w4.heap.size (.slice A6 n6 c6) (d.list.take k ++ [lastNo d + 1])) (fun Z Z' hZ hb => ⟨below_step hZ.1 hb, Kd.R_below hZ.2 hb⟩) (fun _ h => h.1) (fun _ h => h) ⟨hb.trans r2, r1⟩ ?_
    clear hK K hX hb hown hcB r1 r2 r3 r4
    refine flow_fence rfl (fun X hX K hK => ?_)
    obtain ⟨hb, hown⟩ := hX.out
    have hdrop : Kd.C (Kd.int .i64) X (some (al.add k2)) (d.list.length - k2) (d.list.drop k2) := by
      have h := C_dropI (Kd.C_below Hl4.out hb) k2 hk2le
      have e : (Kd.int .i64).sz = 1 := rfl
      rw [e, Nat.mul_one] at h
      exact h
    refine Kd.R_append_rows_step (Kd.int .i64) (w0 := X) w4.heap.size (by rfl) (.tmp 71) (.tmp 80) 31 3 (.int .i64 0) 8 rfl (by kernel_rfl) (by kernel_rfl) rfl (by decide) (by omega) (.slice A6 n6 c6) (d.list.take k ++ [lastNo d + 1]) (d.list.drop k2) _ _ _ (fun _ => True) (fun _ => False) rfl rfl hown hdrop (fun x cs h => h) (fun _ h => h.elim) (fun _ _ => trivial) (Below.refl _ _) hb.size (by simp [htl]; omega) ?_
    intro v1 w5 r1 r2 r3 r4
    obtain ⟨A7, n7, c7, rfl⟩ := R_slice' r1
    generalize hL : d.list.take k ++ [lastNo d + 1] ++ d.list.drop k2 = L at r1
    refine hK.out _ _ (fun Z => Below w4.heap.size w4 Z ∧ Own (Kd.int .i64) 3 Z w4.heap.size (.slice A7 n7 c7) L) (fun Z => Below w4.heap.size w4 Z ∧ Own (Kd.int .i64) 3 Z w4.heap.size (.slice A7 n7 c7) L) (fun Z Z' hZ hb => ⟨below_step hZ.1 hb, Kd.R_below hZ.2 hb⟩) (fun _ h => h) ⟨hb.trans r2, r1⟩ ?_
    clear hK K hX hb hown hdrop r1 r2 r3 r4
    repeat ((first | refine flow_calm (fun K hK => ?_) | refine flow_free (fun K hK => ?_) | refine float_calm (fun K hK => ?_) | refine float_free (fun K hK => ?_)); go_simp; first | (refine hK _ ?_; clear hK K) | (apply Exists.intro; (refine ⟨fun X => ?_, hK _ ?_⟩); (first | (intro hC; rfl) | rfl | (intro hC; skip; go_simp; done) | (intro hC; skip; go_simp; rfl)); clear hK K))
    refine flow_fence rfl (fun X hX K hK => ?_)
    obtain ⟨hb, hown⟩ := hX.out
    have hDX := HD4.out.later hb
    have q1 := hDX.box.cell 1 _ rfl
    have qf := hDX.box.frozen 1
    go_simp
    have hP := hDX.put_list (below_grown (Below.refl _ _) _) (.slice A7 n7 c7) L (Kd.R_lower hown hz4)
    have hP2 : DOwn h0 (X.setCell ⟨b, 1, none⟩ (.slice A7 n7 c7)) b vf' (.slice A7 n7 c7) rs' (merge2D d k) := by rw [merge2D, ← Hk2.out, hL]; exact hP
    have hb5 : Kp h0 w (X.setCell ⟨b, 1, none⟩ (.slice A7 n7 c7)) := (HB4.out.later hb hz4).setCell (p := ⟨b, 1, none⟩) HD4.out.hb hDX.mineB _
    refine hK.out _ _ (fun Z => DOwn h0 Z b vf' (.slice A7 n7 c7) rs' (merge2D d k) ∧ Kp h0 w Z ∧ h0 ≤ Z.heap.size ∧ MBox w w.heap.size B5 B6 #[.int .i64 sdo, .int .i64 k, .int .i64 stop, .bool torn, .int .i64 n.do_, .int .i64 n.src, .int .i64 n.id, .int .i64 n.ver, .int .i64 n.body.at_, .int .i64 n.body.key, .int .i64 n.body.val] (listAt d k) (listAt d k1) Z) (fun Z => DOwn h0 Z b vf' (.slice A7 n7 c7) rs' (merge2D d k) ∧ Kp h0 w Z ∧ h0 ≤ Z.heap.size ∧ MBox w w.heap.size B5 B6 #[.int .i64 sdo, .int .i64 k, .int .i64 stop, .bool torn, .int .i64 n.do_, .int .i64 n.src, .int .i64 n.id, .int .i64 n.ver, .int .i64 n.body.at_, .int .i64 n.body.key, .int .i64 n.body.val] (listAt d k) (listAt d k1) Z) (fun Z Z' hZ hb => ⟨hZ.1.later hb, hZ.2.1.later hb hZ.2.2.1, Nat.le_trans hZ.2.2.1 hb.size, hZ.2.2.2.later hb⟩) (fun _ h => h) ⟨hP2, hb5, by have := hb5.size; omega, (HM4.out.later hb).far hbw _⟩ ?_
    clear hK K hX hb hown hDX q1 qf hP hP2 hb5
    refine flow_nil ?_
    intro w5 hX
    obtain ⟨hD5, hB5, hz5, hM5⟩ := hX.out
    have HD5 := Lib.hid hD5
    have HB5 := Lib.hid hB5
    have HM5 := Lib.hid hM5
    clear hX hD5 hB5 hM5 HM4 HD4 HB4 q2
    have q2 := HM5.out.step.cell 2 _ rfl
    by_cases hs2 : stop = 2
    · subst hs2
      go_wp2
      refine ⟨rfl, ?_⟩
      rw [MergePost, if_neg (by decide), if_pos rfl]
      exact ⟨_, _, _, rfl, HD5.out, HB5.out⟩
    · have hs2b : (stop == 2) = false := by simpa using hs2
      have hm3 := Lib.hid (show merge3D d k = dropD (merge2D d k) (fun no => !(no == listAt d k) && !(no == listAt d k1)) by rw [merge3D, ← Hk1.out])
      have Hg := Lib.hid (show ∀ (r : RF) (W : World), r ∈ rs' → Below w5.heap.size w5 W → Calls Try.prog 91 #[.agg #[.int .i64 r.no, r.v, .int .i64 r.safe], .pointer (some ⟨B5, 0, none⟩), .pointer (some ⟨B6, 0, none⟩)] W fun e W' => e = .returned (.bool (!((fun no => !(no == listAt d k) && !(no == listAt d k1)) r.no))) ∧ Below W.heap.size W W' from fun r W hr hW => seg_merge1 r.no r.safe (listAt d k) (listAt d k1) _ _ _ B5 B6 W (cell_keep hW (HM5.out.a.cell 0 _ rfl)) (cell_keep hW (HM5.out.b.cell 0 _ rfl)))
      have Heg := enters_of Try.func91 (by kernel_rfl) rfl
      go_wp2_with (first
        | (go_at_call 90; refine (seg_drop2 (merge2D d k) h0 b _ _ rs' 91 (.pointer (some ⟨B5, 0, none⟩)) (.pointer (some ⟨B6, 0, none⟩)) (fun no => !(no == listAt d k) && !(no == listAt d k1)) w5 HD5.out (by simp [merge2D, merge1D, freshD]; omega) hz5 Heg Hg.out).mono ?_; rintro e w6 ⟨vf6, rs6, rfl, hD6, hB6, hG6⟩))
      go_ret
      rw [MergePost, if_neg hs1, if_neg hs2, hm3.out]
      exact ⟨_, _, _, rfl, hD6, HB5.out.grown hB6 hG6 (fun j hj => by cases hj; exact HD5.out.mineB)⟩
end Go.Proofs.Ytfmojgdomficlaa
