/-
  Texts of one hand, laid together: LawPiqueOne.
-/
import Derived.Test.YtemkloildadokaaZD
import Derived.Test.YtemkloildadokaaZH
import Derived.Test.YtemkloildadokaaZC
import Derived.Test.YtemkloildadokaaZE
import Derived.Test.YtemkloildadokaaRows
import Derived.ProofKit
import Derived.OpenShut
import Derived.ShutString
import Derived.ChangeOld
import Derived.SizedLaws
set_option linter.unusedVariables false
set_option linter.unusedSimpArgs false
/-! The stage's theorem: for every line and every change of it, there is just one element more or less at each time from then on, the one that the walk tells; ahead of it nothing changes, and along the walk the elements increase; and the chapter's examples are as they are stated. -/
namespace Go.Proofs.Ytemkloildadokaa
open Go.RowKit Go.Shelf Go.Proofs.YtemkloildadokaaW.PrintWords
/-- What the law needs of a change, in short. -/
structure OneOk (l m : List PStep) (f : Int) (more : Bool) (sp : List PSpan) : Prop where
  step : ∀ {k : Nat} {d : PSpan}, sp[k]? = some d → d.from_ = frE f sp k ∧ d.from_ ≤ d.to_ ∧ d.to_ ≤ 1000 ∧ f ≤ d.from_ ∧ ∀ e, sp[k + 1]? = some e → eltB d.elem e.elem = true
  last : frE f sp sp.length = 1001
  ahead : ∀ t, t < f → atE l t = atE m t
  find : ∀ t, f ≤ t → t ≤ 1000 → ∃ d, sp.find? (fun d => decide (d.from_ ≤ t) && decide (t ≤ d.to_)) = some d ∧ (if more = true then d.elem ∉ atE l t ∧ atE m t = insE d.elem (atE l t) else d.elem ∉ atE m t ∧ atE l t = insE d.elem (atE m t))
  pos : 0 ≤ f ∧ f ≤ 1000
theorem one_ok {l m : List PStep} {f : Int} {more : Bool} {sp : List PSpan} (h : if more = true then Told m l f sp else Told l m f sp) : OneOk l m f more sp := by
  cases more
  · simp only [Bool.false_eq_true, if_false] at h
    obtain ⟨x, hx⟩ := h.ok
    refine ⟨fun hk => sp_step hx hk, (sp_last hx).1, fun t ht => h.ahead t ht, fun t h0 h1 => ?_, h.pos⟩
    obtain ⟨d, hd⟩ := span_of hx h0 h1
    have hc := List.find?_some hd
    simp only [Bool.and_eq_true, decide_eq_true_eq] at hc
    have ho := h.at_ t h0 d (List.mem_of_find?_eq_some hd) hc.1 hc.2
    exact ⟨d, hd, by simp only [Bool.false_eq_true, if_false]; exact ⟨ho.new, ho.eq⟩⟩
  · simp only [if_true] at h
    obtain ⟨x, hx⟩ := h.ok
    refine ⟨fun hk => sp_step hx hk, (sp_last hx).1, fun t ht => (h.ahead t ht).symm, fun t h0 h1 => ?_, h.pos⟩
    obtain ⟨d, hd⟩ := span_of hx h0 h1
    have hc := List.find?_some hd
    simp only [Bool.and_eq_true, decide_eq_true_eq] at hc
    have ho := h.at_ t h0 d (List.mem_of_find?_eq_some hd) hc.1 hc.2
    exact ⟨d, hd, by simp only [if_true]; exact ⟨ho.new, ho.eq⟩⟩
set_option maxRecDepth 100000 in
set_option maxHeartbeats 16000000 in
theorem law_one (l : List PStep) (A : Option Addr) (c : Nat) (s : PStep) (drop : Bool) (tt0 : Int) (w : World) (hr : PStepRow w A l.length l) (hc : l.length ≤ c) (hs : l.length * 24 ≤ 140737488351232) (htt : 0 ≤ tt0 ∧ tt0 ≤ 65535) :
    Calls Try.prog 11 #[.slice A l.length c, .agg #[.int .i64 s.at_, .int .i64 s.do_, .int .i64 s.key, .bool drop], .int .u16 tt0] w fun e w' => e = .returned (.bool true) ∧ Below w.heap.size w w' := by
  obtain ⟨tt, rfl⟩ : ∃ tt : Nat, tt0 = (tt : Int) := ⟨tt0.toNat, by omega⟩
  have htt1 : tt ≤ 65535 := by omega
  clear htt
  have PW := Lib.hid (fun W h => law_want A c l s drop W h hc hs)
  have PG := Lib.hid (fun W h => r_Good A l.length c l W rfl h)
  have PG2 := Lib.hid (fun A c n W hn h => r_Good A n c (wantE l s drop).line W hn h)
  have PC := Lib.hid (law_changed A c l s drop)
  have hct := fun a b c => changed_told (l := l) (s := s) (drop := drop) a b c
  obtain ⟨q, hq⟩ : ∃ q, q = wantE l s drop := ⟨_, rfl⟩
  obtain ⟨r, hre⟩ : ∃ r, r = changedE l s drop := ⟨_, rfl⟩
  rw [← hq] at PW PG2 hct
  rw [← hre] at PC hct
  clear hq hre
  have HX := Lib.hid (Cells.new w #[.int .i64 s.at_, .int .i64 s.do_, .int .i64 s.key, .bool drop] 66)
  have HB := Lib.hid (below_alloc (Below.refl w.heap.size w) (.cells #[.int .i64 s.at_, .int .i64 s.do_, .int .i64 s.key, .bool drop] 66))
  have HR := Lib.hid (Kd.C_below hr HB.out)
  clear hr
  have hcase : (lineB l = true ∧ q.can = true ∧ lineB q.line = true) ∨ (lineB l = false) ∨ (lineB l = true ∧ q.can = false) ∨ (lineB l = true ∧ q.can = true ∧ lineB q.line = false) := by
    cases lineB l <;> cases q.can <;> cases lineB q.line <;> simp
  have Hcase := Lib.hid hcase
  clear hcase
  go_enter Try.func11, Try.ntmps11
  go_upto_region 1 with fail
  generalize w.alloc (.cells #[.int .i64 s.at_, .int .i64 s.do_, .int .i64 s.key, .bool drop] 66) = w1 at HX HB HR ⊢
  have x0 := HX.out.cell 0 _ rfl
  have x1 := HX.out.cell 1 _ rfl
  have x2 := HX.out.cell 2 _ rfl
  have x3 := HX.out.cell 3 _ rfl
  go_upto_region 2 with (go_at_call 44; (with_reducible refine (PW.out w1 HR.out).mono ?_); rintro e w2 ⟨v2, rfl, ho2, hb2⟩; obtain ⟨Am, cm, rfl, hcm, hrm⟩ := own_reads' ho2; have HB2 := Lib.hid hb2; have HM2 := Lib.hid hrm; clear ho2 hrm hb2)
  clear x0 x1 x2 x3
  have HQ3 := Lib.hid (Cells.new w2 #[.int .i64 q.step.at_, .int .i64 q.step.do_, .int .i64 q.step.key] 36)
  have hba := below_alloc (Below.refl w2.heap.size w2) (.cells #[.int .i64 q.step.at_, .int .i64 q.step.do_, .int .i64 q.step.key] 36)
  have HB3 := Lib.hid (below_step HB2.out hba)
  have HM3 := Lib.hid (Kd.C_below HM2.out hba)
  have HX3 := Lib.hid (HX.out.later HB3.out)
  have HR3 := Lib.hid (Kd.C_below HR.out HB3.out)
  clear hba HM2 HB2
  generalize w2.alloc (.cells #[.int .i64 q.step.at_, .int .i64 q.step.do_, .int .i64 q.step.key] 36) = w3 at HQ3 HB3 HM3 HX3 HR3 ⊢
  have arm := HB3
  rcases Hcase.out with ⟨g1, g2, g3⟩ | g1 | ⟨g1, g2⟩ | ⟨g1, g2, g3⟩
  rotate_left
  · rw [g1] at PG
    go_wp2_with (first | (go_at_call 34; (with_reducible refine (PG.out w3 HR3.out).mono ?_); rintro e w4 ⟨rfl, hb4⟩; have HBx := Lib.hid hb4; have HB4 := Lib.hid (below_step HB3.out hb4); clear hb4) | (go_at_call 20; (with_reducible refine (known_true _).mono ?_); rintro e w9 ⟨rfl, hb9⟩))
    go_ret
    exact ⟨rfl, below_step HB.out (below_step HB4.out hb9)⟩
  · rw [g1] at PG
    go_wp2_with (first | (go_at_call 34; (with_reducible refine (PG.out w3 HR3.out).mono ?_); rintro e w4 ⟨rfl, hb4⟩; have HBx := Lib.hid hb4; have HB4 := Lib.hid (below_step HB3.out hb4); clear hb4) | (go_at_call 20; (with_reducible refine (known_true _).mono ?_); rintro e w9 ⟨rfl, hb9⟩))
    go_ret
    exact ⟨rfl, below_step HB.out (below_step HB4.out hb9)⟩
  · rw [g1] at PG
    rw [g3] at PG2
    go_wp2_with (first | (go_at_call 34; (with_reducible refine (PG.out w3 HR3.out).mono ?_); rintro e w4 ⟨rfl, hb4⟩; have HBx := Lib.hid hb4; have HB4 := Lib.hid (below_step HB3.out hb4); clear hb4) | (go_at_call 34; (with_reducible refine (PG2.out Am cm q.line.length w4 rfl (Kd.C_below HM3.out HBx.out)).mono ?_); rintro e w5 ⟨rfl, hb5⟩; have HB5 := Lib.hid (below_step HB4.out hb5); clear hb5) | (go_at_call 20; (with_reducible refine (known_true _).mono ?_); rintro e w9 ⟨rfl, hb9⟩))
    go_ret
    exact ⟨rfl, below_step HB.out (below_step HB5.out hb9)⟩
  · obtain ⟨t1, t2, t3, t4⟩ := hct g1 g2 g3
    have h60 : l.length ≤ 60 := (line_of g1).len
    have m60 : q.line.length ≤ 60 := (line_of g3).len
    have PA := Lib.hid (fun W t h => p_At A c l t W h hc)
    have PM := Lib.hid (fun A c t W h hc => p_At A c q.line t W h hc)
    rw [g1] at PA
    rw [g3] at PM
    simp only [if_true] at PA PM
    have hok := one_ok t4
    have G1 := Lib.hid g1
    have G3 := Lib.hid g3
    rw [g1] at PG
    rw [g3] at PG2
    obtain ⟨m, hm⟩ : ∃ m, m = q.line := ⟨_, rfl⟩
    have T2 := Lib.hid t2
    rw [← hm] at T2 PG2 PM HM3 hok m60 hcm
    rw [← hm]
    obtain ⟨sa, hsa⟩ : ∃ sa, sa = (q.step.do_ == 1) := ⟨_, rfl⟩
    rw [← hsa] at t3
    have hsa' := hsa.symm
    clear hm t2 t4 g1 g3 hct hsa
    have HOk := Lib.hid hok
    clear hok
    have hmr : ((sa != drop) != r.more) = false := by rw [t3]; simp
    have hmr2 : (r.more == !(sa == drop)) = true := by rw [t3]; simp [bne]
    clear t3
    go_upto_region 4 with (go_at_call 34; first
      | ((with_reducible refine (PG.out w3 HR3.out).mono ?_); rintro e w4 ⟨rfl, hb4⟩; have HB4 := Lib.hid hb4; clear hb4)
      | ((with_reducible refine (PG2.out Am cm m.length w4 rfl (Kd.C_below HM3.out HB4.out)).mono ?_); rintro e w5 ⟨rfl, hb5⟩; have HB5 := Lib.hid (below_step HB4.out hb5); clear hb5))
    have HX5 := Lib.hid (HX3.out.later HB5.out)
    have x0 := HX5.out.cell 0 _ rfl
    have x1 := HX5.out.cell 1 _ rfl
    have x2 := HX5.out.cell 2 _ rfl
    have x3 := HX5.out.cell 3 _ rfl
    go_upto_region 5 with (go_at_call 45; (with_reducible refine (PC.out w5 (Kd.C_below HR3.out HB5.out)).mono ?_); rintro e w6 ⟨⟨vo2, vt2, rfl, ho2, ht2⟩, hb2⟩; rw [t1]; obtain ⟨A2, c2, rfl, hc2, hr2⟩ := own_reads' ho2; obtain ⟨B2, d2, rfl, hd2, hs2⟩ := own_reads' ht2; have HB6 := Lib.hid (below_step HB5.out hb2); have HR6 := Lib.hid hr2; have HS6 := Lib.hid hs2; clear hb2 hr2 hs2 ho2 ht2)
    clear x0 x1 x2 x3
    have HW7 := Lib.hid (Cells.new w6 #[.bool r.more, .slice B2 r.spans.length d2] 39)
    have hba := below_alloc (Below.refl w6.heap.size w6) (.cells #[.bool r.more, .slice B2 r.spans.length d2] 39)
    have HB7 := Lib.hid (below_step HB6.out hba)
    have HR7 := Lib.hid (show PStepRow (w6.alloc (.cells #[.bool r.more, .slice B2 r.spans.length d2] 39)) A2 m.length m by have := Kd.C_below HR6.out hba; rw [T2.out] at this; exact this)
    have HS7 := Lib.hid (Kd.C_below HS6.out hba)
    have hlm : r.line.length = m.length := by rw [T2.out]
    rw [hlm]
    clear hba HR6 HS6 HB6 HB5 HB4 HX5 t1 hlm
    generalize w6.alloc (.cells #[.bool r.more, .slice B2 r.spans.length d2] 39) = w7 at HW7 HB7 HR7 HS7 ⊢
    have HM7 := Lib.hid (Kd.C_below HM3.out HB7.out)
    have HRl := Lib.hid (Kd.C_below HR3.out HB7.out)
    have hx := HX3.out.later HB7.out
    have x3 := hx.cell 3 _ rfl
    have hq' := HQ3.out.later HB7.out
    have q0 := hq'.cell 0 _ rfl
    have q1 := hq'.cell 1 _ rfl
    have v0 := HW7.out.cell 0 _ rfl
    have v1 := HW7.out.cell 1 _ rfl
    go_upto_region 7 with (go_at_call 36; (with_reducible refine (equal_steps m m A2 Am c2 cm w7 HR7.out HM7.out).mono ?_); rintro e w8 ⟨he4, hb4⟩; have he5 : e = .returned (.bool true) := (by rw [he4]; simp); subst he5; have HB8 := Lib.hid hb4; have x3 := cell_keep hb4 x3; have q0 := cell_keep hb4 q0; have q1 := cell_keep hb4 q1; have v0 := cell_keep hb4 v0; have v1 := cell_keep hb4 v1; clear he4 hb4)
    have HQ8 := Lib.hid (hq'.later HB8.out)
    have HW8 := Lib.hid (HW7.out.later HB8.out)
    have HM8 := Lib.hid (Kd.C_below HM7.out HB8.out)
    have HR8 := Lib.hid (Kd.C_below HRl.out HB8.out)
    have HS8 := Lib.hid (Kd.C_below HS7.out HB8.out)
    have HBw := Lib.hid (below_step HB.out (below_step HB3.out (below_step HB7.out HB8.out)))
    clear hx hq' x3 q1 v0 HX HX3 HQ3 HW7 HM7 HM3 HR3 HR HRl HS7 HB7 HB8 HB3 HB HR7 hmr hmr2 hsa' PC PW PG PG2 arm Hcase
    generalize hw9 : w8 = w2' at HQ8 HW8 HM8 HR8 HS8 HBw q0 v1 ⊢
    clear hw9 w8
    rename_i w8
    generalize hw9 : w2' = w8 at HQ8 HW8 HM8 HR8 HS8 HBw q0 v1 ⊢
    clear hw9
    obtain ⟨f, hf⟩ : ∃ f, f = q.step.at_ := ⟨_, rfl⟩
    obtain ⟨sp, hsp⟩ : ∃ sp, sp = r.spans := ⟨_, rfl⟩
    obtain ⟨more, hmo⟩ : ∃ more, more = r.more := ⟨_, rfl⟩
    have HQf := Lib.hid (HQ8.out.cell 0 _ rfl)
    have HWm := Lib.hid (HW8.out.cell 0 _ rfl)
    have HWs := Lib.hid (HW8.out.cell 1 _ rfl)
    simp only [List.getElem_toArray, List.getElem_cons_zero, List.getElem_cons_succ] at HQf HWm HWs
    rw [← hf] at HOk HQf q0
    rw [← hsp] at HOk HWs v1 HS8
    rw [← hmo] at HOk HWm
    rw [← hsp]
    clear hf hsp hmo HQ8 HW8 T2 G1 G3
    go_wp2
    have hpos := HOk.out.pos
    have hspm : sp.length ≤ 9223372036854775807 := HS8.out.2.1
    go_loopw [76, 14] (fun i v wr => ∃ k : Nat, k ≤ sp.length ∧ i = .int .i64 k ∧ v = .int .i64 (frE f sp k) ∧ Below w8.heap.size w8 wr) (fun i _ _ => sp.length - (intOf i).toNat)
    case atStart => exact ⟨0, Nat.zero_le _, rfl, rfl, Below.refl _ _⟩
    case round =>
      obtain ⟨k, hk, rfl, rfl, hB⟩ := hrel
      have HBr := Lib.hid hB
      clear hB q0 v1
      by_cases hlt : k < sp.length
      · obtain ⟨d, ad, hd, htk, hget, rfl, e0, e1, e2, e3⟩ := pspan_at (Kd.C_below HS8.out HBr.out) k hlt
        obtain ⟨s1, s2, s3, s4, -⟩ := HOk.out.step hget
        have Hnx := Lib.hid (show frE f sp (k + 1) = d.to_ + 1 by simp [frE, hget])
        obtain ⟨fk, hfk⟩ : ∃ fk, fk = frE f sp k := ⟨_, rfl⟩
        rw [← hfk] at s1 ⊢
        have hfe : (d.from_ == fk) = true := by simp [s1]
        have hfe2 : (d.from_ != fk) = false := by simp [s1]
        have hto : ¬ d.to_ < d.from_ := by omega
        have hwt : IntKind.i64.wrap (d.to_ + 1) = d.to_ + 1 := IntWalk.i64_in _ (by omega)
        have hkn : k + 1 ≤ sp.length := hlt
        have Hget := Lib.hid hget
        clear hd htk hget s1 s2 s3 s4 hfk
        go_upto_region 11 with fail
        have HS := Lib.hid (Cells.new wr #[.int .i64 d.from_, .int .i64 d.to_, .int .i64 d.elem.key, .int .i64 d.elem.from_] 60)
        have hba := below_alloc (Below.refl wr.heap.size wr) (.cells #[.int .i64 d.from_, .int .i64 d.to_, .int .i64 d.elem.key, .int .i64 d.elem.from_] 60)
        have HB9 := Lib.hid (below_step HBr.out hba)
        clear hba e0 e1 e2 e3
        generalize wr.alloc (.cells #[.int .i64 d.from_, .int .i64 d.to_, .int .i64 d.elem.key, .int .i64 d.elem.from_] 60) = w9 at HS HB9 ⊢
        by_cases hk0 : k = 0
        · have hkI : ¬ (0 : Int) < (k : Int) := by omega
          refine wp_region_flow [.free 0, .calm 1, .free 2, .free 3, .free 4, .free 5, .calm 6, .free 7, .calm 8, .free 9, .free 10, .free 11, .free 12, .free 13, .free 14, .free 15, .free 16, .free 17, .free 18, .free 19, .free 20, .free 21, .free 22, .free 23, .free 24, .free 25, .free 26, .free 27] (Below w9.heap.size w9) (Below w9.heap.size w9) (stable_below _ _ (Nat.le_refl _)) (fun _ h => h) (by kernel_rfl) (by kernel_rfl) (below_drew1 (Below.refl _ _)) ?_
          simp only [pickEnts, pickF, List.getElem?_cons_succ, List.getElem?_cons_zero, List.filterMap_cons, List.filterMap_nil, Option.map_some]
          repeat ((first | refine flow_calm (fun K hK => ?_) | refine flow_free (fun K hK => ?_) | refine float_calm (fun K hK => ?_) | refine float_free (fun K hK => ?_)); go_simp; first | (refine hK _ ?_; clear hK K) | (apply Exists.intro; (refine ⟨fun X => ?_, hK _ ?_⟩); (first | (intro hC; rfl) | rfl | (intro hC; have y := HS.out.later hC.out; have y0 := y.cell 0 _ rfl; have y1 := y.cell 1 _ rfl; go_simp; done) | (intro hC; have y := HS.out.later hC.out; have y0 := y.cell 0 _ rfl; have y1 := y.cell 1 _ rfl; go_simp; rfl)); clear hK K))
          refine flow_nil ?_
          intro Y hC
          have HY := Lib.hid (below_step HB9.out hC.out)
          have y1 := (HS.out.later hC.out).cell 1 _ rfl
          clear hC
          go_wp2
          exact ⟨⟨k + 1, hkn, by go_num, by rw [Hnx.out], HY.out⟩, by simp [intOf]; omega⟩
        · obtain ⟨j, hj⟩ : ∃ j, k = j + 1 := ⟨k - 1, by omega⟩
          have hjl : j < sp.length := by omega
          have hjI : (j : Int) < (sp.length : Int) := by omega
          obtain ⟨e, ad2, hd2, htk2, hget2, hA2, f0, f1, f2, f3⟩ := pspan_at (Kd.C_below HS8.out HB9.out) j hjl
          cases hA2
          have hle := (HOk.out.step hget2).2.2.2.2 d (by rw [← hj]; exact Hget.out)
          have Hle := Lib.hid hle
          have F2 := Lib.hid f2
          have F3 := Lib.hid f3
          have hkI : (0 : Int) < (k : Int) := by omega
          have hkN0 : 0 < k := by omega
          have hwk : IntKind.i64.wrap ((k : Int) - 1) = (j : Int) := by rw [IntWalk.i64_in _ (by omega)]; omega
          clear hd2 htk2 hget2 hle f0 f1 f2 f3 hj
          refine wp_region_flow [.free 0, .calm 1, .free 2, .free 3, .free 4, .free 5, .calm 6, .free 7, .calm 8, .free 9, .free 10, .free 11, .free 12, .free 13, .free 14, .free 15, .calm 16, .free 17, .free 18, .free 19, .free 20, .calm 21, .free 22, .calm 23, .calm 24, .free 25, .free 26, .free 27] (Below w9.heap.size w9) (Below w9.heap.size w9) (stable_below _ _ (Nat.le_refl _)) (fun _ h => h) (by kernel_rfl) (by kernel_rfl) (below_drew1 (Below.refl _ _)) ?_
          simp only [pickEnts, pickF, List.getElem?_cons_succ, List.getElem?_cons_zero, List.filterMap_cons, List.filterMap_nil, Option.map_some]
          repeat ((first | refine flow_calm (fun K hK => ?_) | refine flow_free (fun K hK => ?_) | refine float_calm (fun K hK => ?_) | refine float_free (fun K hK => ?_)); go_simp; first | (refine hK _ ?_; clear hK K) | (apply Exists.intro; (refine ⟨fun X => ?_, hK _ ?_⟩); (first | (intro hC; rfl) | rfl | (intro hC; have y := HS.out.later hC.out; have y0 := y.cell 0 _ rfl; have y1 := y.cell 1 _ rfl; have y2 := y.cell 2 _ rfl; have y3 := y.cell 3 _ rfl; have vs := cell_keep (below_step HB9.out hC.out) HWs.out; have f2 := cell_keep hC.out F2.out; have f3 := cell_keep hC.out F3.out; go_simp; done) | (intro hC; have y := HS.out.later hC.out; have y0 := y.cell 0 _ rfl; have y1 := y.cell 1 _ rfl; have y2 := y.cell 2 _ rfl; have y3 := y.cell 3 _ rfl; have vs := cell_keep (below_step HB9.out hC.out) HWs.out; have f2 := cell_keep hC.out F2.out; have f3 := cell_keep hC.out F3.out; go_simp; rfl) | (intro hC; (with_reducible refine (r_Less e.elem d.elem _).mono ?_); rintro e w' ⟨he, hb⟩; rw [Hle.out] at he; exact ⟨he, hb⟩)); clear hK K))
          refine flow_nil ?_
          intro Y hC
          have HY := Lib.hid (below_step HB9.out hC.out)
          have y1 := (HS.out.later hC.out).cell 1 _ rfl
          clear hC
          go_wp2
          exact ⟨⟨k + 1, hkn, by go_num, by rw [Hnx.out], HY.out⟩, by simp [intOf]; omega⟩
      · have hlast : frE f sp k = 1001 := by rw [show k = sp.length by omega]; exact HOk.out.last
        rw [hlast]
        have hkI : ¬ (k : Int) < (sp.length : Int) := by omega
        clear hlast
        obtain ⟨a, ha⟩ : ∃ a, a = tt % 1001 := ⟨_, rfl⟩
        have ha1 : a ≤ 1000 := by omega
        have hmod : (tt : Int).tmod 1001 = (a : Int) := by rw [ha, Int.tmod_eq_emod_of_nonneg (by omega)]; omega
        clear ha
        go_upto_region 16 with fail
        have HA := Lib.hid (Cells.new wr #[.int .i64 a] 3)
        have hba := below_alloc (Below.refl wr.heap.size wr) (.cells #[.int .i64 a] 3)
        have HB9 := Lib.hid (below_step HBr.out hba)
        clear hba
        generalize wr.alloc (.cells #[.int .i64 a] 3) = w9 at HA HB9 ⊢
        have hA0 := HA.out.cell 0 _ rfl
        obtain ⟨La, hLa⟩ : ∃ La, La = atE l a := ⟨_, rfl⟩
        obtain ⟨Lb, hLb⟩ : ∃ Lb, Lb = atE m a := ⟨_, rfl⟩
        have PAa := Lib.hid (PA.out · a)
        have PMa := Lib.hid (fun W => PM.out Am cm a W)
        have PAb := Lib.hid (fun W h => PA.out W a h)
        rw [← hLa] at PAb
        rw [← hLb] at PMa
        have hla : La.length ≤ 60 := by rw [hLa]; exact Nat.le_trans (at_len l a) h60
        have hlb : Lb.length ≤ 60 := by rw [hLb]; exact Nat.le_trans (at_len m a) m60
        have HLa := Lib.hid hLa
        have HLb := Lib.hid hLb
        clear hLa hLb PAa
        go_upto_region 18 with (go_at_call 29; first
          | ((with_reducible refine (PAb.out w9 (Kd.C_below HR8.out HB9.out)).mono ?_); rintro e w10 ⟨⟨v10, rfl, ho10⟩, hb10⟩; obtain ⟨Aa, ca, rfl, hca, hra⟩ := own_reads' ho10; have HB10 := Lib.hid hb10; have Ha := Lib.hid hra; have hA0 := cell_keep hb10 hA0; clear hb10 hra ho10)
          | ((with_reducible refine (PMa.out w10 (Kd.C_below HM8.out (below_step HB9.out HB10.out)) hcm).mono ?_); rintro e w11 ⟨⟨v11, rfl, ho11⟩, hb11⟩; obtain ⟨Ab, cb, rfl, hcb, hrb⟩ := own_reads' ho11; have HB11 := Lib.hid (below_step HB10.out hb11); have Ha2 := Lib.hid (Kd.C_below Ha.out hb11); have Hb := Lib.hid hrb; have hA0 := cell_keep hb11 hA0; clear hb11 hrb ho11))
        have HW11 := Lib.hid (below_step HB9.out HB11.out)
        have HA11 := Lib.hid (HA.out.later HB11.out)
        have qf := cell_keep HW11.out HQf.out
        have wm := cell_keep HW11.out HWm.out
        have ws := cell_keep HW11.out HWs.out
        have HS11 := Lib.hid (Kd.C_below HS8.out HW11.out)
        clear HA Ha HB10 HB9 HB11 HR8 HM8 HS8
        by_cases haf : (a : Int) < f
        · have hab : La = Lb := by rw [HLa.out, HLb.out]; exact HOk.out.ahead a haf
          subst hab
          go_wp2_with (first
            | (go_at_call 41; (with_reducible refine (equal_elems La La Aa Ab ca cb w11 Ha2.out Hb.out).mono ?_); rintro e w12 ⟨he4, hb4⟩; have he5 : e = .returned (.bool true) := (by rw [he4]; simp); subst he5; have HB12 := Lib.hid (below_step HW11.out hb4); clear he4 hb4)
            | (go_at_call 20; (with_reducible refine (known_true _).mono ?_); rintro e w13 ⟨rfl, hb13⟩))
          go_ret
          exact ⟨rfl, below_step HBw.out (below_step HB12.out hb13)⟩
        · obtain ⟨d, hfind, hd⟩ := HOk.out.find a (by omega) (by omega)
          rw [← HLa.out, ← HLb.out] at hd
          have Hfind := Lib.hid hfind
          clear hfind HLa HLb HOk PAb PMa PA PM
          cases more with
          | true =>
            simp only [if_true] at hd
            obtain ⟨hnew, heq⟩ := hd
            have Hnew := Lib.hid hnew
            have Heq := Lib.hid heq
            have HLen := Lib.hid (show Lb.length = (insE d.elem La).length by rw [heq])
            have hlB : Lb.length ≤ 60 := by omega
            clear hnew heq
            go_upto_region 25 with (go_at_call 47; (with_reducible refine (index_span B2 sp.length d2 sp _ (a : Int) d w11 rfl HS11.out HA11.out Hfind.out).mono ?_); rintro e w12 ⟨⟨i, rfl, hi⟩, hb12⟩; have HB12 := Lib.hid hb12; have Hi := Lib.hid hi; clear hb12 hi)
            obtain ⟨d', ads, -, -, hgd, hAs, f0, f1, f2, f3⟩ := pspan_at (Kd.C_below HS11.out HB12.out) i (List.getElem?_eq_some_iff.1 Hi.out).1
            cases hAs
            obtain rfl : d = d' := by rw [Hi.out] at hgd; cases hgd; rfl
            have hil : i < sp.length := (List.getElem?_eq_some_iff.1 Hi.out).1
            have hilI : (i : Int) < (sp.length : Int) := by omega
            have ws := cell_keep HB12.out ws
            have HB13 := Lib.hid (below_step HW11.out HB12.out)
            have Ha12 := Lib.hid (Kd.C_below Ha2.out HB12.out)
            have Hb12 := Lib.hid (show ElemRow w12 Ab Lb.length (insE d.elem La) by have := Kd.C_below Hb.out HB12.out; rw [Heq.out] at this; rw [Heq.out]; exact this)
            clear hgd f0 f1 wm qf hA0
            go_wp2_with (first
              | (go_at_call 49; (with_reducible refine (law_less Ab Lb.length cb La d.elem w12 HLen.out Hb12.out Hnew.out hlB).mono ?_); rintro e w13 ⟨v13, rfl, ho13, hb13⟩; obtain ⟨Ay, cy, rfl, hcy, hry⟩ := own_reads' ho13; have HB14 := Lib.hid (below_step HB13.out hb13); have Hy := Lib.hid hry; have Hx := Lib.hid (Kd.C_below Ha12.out hb13); clear ho13 hry hb13)
              | (go_at_call 41; (with_reducible refine (equal_elems La La Aa Ay ca cy w13 Hx.out Hy.out).mono ?_); rintro e w14 ⟨he4, hb4⟩; have he5 : e = .returned (.bool true) := (by rw [he4]; simp); subst he5; have HB15 := Lib.hid (below_step HB14.out hb4); clear he4 hb4)
              | (go_at_call 20; (with_reducible refine (known_true _).mono ?_); rintro e w15 ⟨rfl, hb15⟩))
            go_ret
            exact ⟨rfl, below_step HBw.out (below_step HB15.out hb15)⟩
          | false =>
            simp only [Bool.false_eq_true, if_false] at hd
            obtain ⟨hnew, heq⟩ := hd
            have Hnew := Lib.hid hnew
            have Heq := Lib.hid heq
            have HLen := Lib.hid (show La.length = (insE d.elem Lb).length by rw [heq])
            have hlB : La.length ≤ 60 := by omega
            clear hnew heq
            go_upto_region 25 with (go_at_call 47; (with_reducible refine (index_span B2 sp.length d2 sp _ (a : Int) d w11 rfl HS11.out HA11.out Hfind.out).mono ?_); rintro e w12 ⟨⟨i, rfl, hi⟩, hb12⟩; have HB12 := Lib.hid hb12; have Hi := Lib.hid hi; clear hb12 hi)
            obtain ⟨d', ads, -, -, hgd, hAs, f0, f1, f2, f3⟩ := pspan_at (Kd.C_below HS11.out HB12.out) i (List.getElem?_eq_some_iff.1 Hi.out).1
            cases hAs
            obtain rfl : d = d' := by rw [Hi.out] at hgd; cases hgd; rfl
            have hil : i < sp.length := (List.getElem?_eq_some_iff.1 Hi.out).1
            have hilI : (i : Int) < (sp.length : Int) := by omega
            have ws := cell_keep HB12.out ws
            have HB13 := Lib.hid (below_step HW11.out HB12.out)
            have Ha12 := Lib.hid (Kd.C_below Hb.out HB12.out)
            have Hb12 := Lib.hid (show ElemRow w12 Aa La.length (insE d.elem Lb) by have := Kd.C_below Ha2.out HB12.out; rw [Heq.out] at this; rw [Heq.out]; exact this)
            clear hgd f0 f1 wm qf hA0
            go_wp2_with (first
              | (go_at_call 49; (with_reducible refine (law_less Aa La.length ca Lb d.elem w12 HLen.out Hb12.out Hnew.out hlB).mono ?_); rintro e w13 ⟨v13, rfl, ho13, hb13⟩; obtain ⟨Ay, cy, rfl, hcy, hry⟩ := own_reads' ho13; have HB14 := Lib.hid (below_step HB13.out hb13); have Hy := Lib.hid hry; have Hx := Lib.hid (Kd.C_below Ha12.out hb13); clear ho13 hry hb13)
              | (go_at_call 41; (with_reducible refine (equal_elems Lb Lb Ab Ay cb cy w13 Hx.out Hy.out).mono ?_); rintro e w14 ⟨he4, hb4⟩; have he5 : e = .returned (.bool true) := (by rw [he4]; simp); subst he5; have HB15 := Lib.hid (below_step HB14.out hb4); clear he4 hb4)
              | (go_at_call 20; (with_reducible refine (known_true _).mono ?_); rintro e w15 ⟨rfl, hb15⟩))
            go_ret
            exact ⟨rfl, below_step HBw.out (below_step HB15.out hb15)⟩
end Go.Proofs.Ytemkloildadokaa
namespace Go.Proofs.Ytemkloildadokaa.PiqueOne
open Go.ChangeShapes Go.WideShapes Go.ChangeAt Go.RowKit
open Go.ChangeMaps (open_string shut_string)
theorem own : ownKnob Try.prog.godebug = none := by kernel_rfl
theorem laidOut : laidOutB Try.prog = true := by kernel_rfl
set_option maxRecDepth 100000 in
theorem lifted (os : Os) (started : os.Started) (H : Type) (enc : TypeId × Value → H) :
    ReturnsInHanded {} Try.checked os 11 .any (Rows.piqueOneSpec.pre6 enc Try.prog Try.f11 Rows.piqueOneRow.domain false) (Rows.piqueOneSpec.post enc Try.prog Try.f11 false true false false) := by
  refine returnsInHanded_of_change_sized (C := Try.checked) own started (by kernel_rfl) Try.func11
    (ChangeSpec.witness6 (enc := enc) (C := Try.checked) false ⟨#[], #[.slice none 0 0, .agg #[.int .i64 0, .int .i64 0, .int .i64 0, .bool false], .int .u16 0], []⟩ 8 (by kernel_rfl) (by kernel_rfl) (by kernel_rfl) (by kernel_rfl)) ?_
  intro W base args ds gs before hval0 hW hcnd hsz0 _
  have hsz : (DataW.weightsEach Try.prog (Try.f11.params.toList ++ Rows.piqueOneSpec.plain.varTypes Try.prog) (ds ++ gs)).all (· ≤ reachBytes) = true := hsz0
  have hval : ∀ (j : Nat) t v, Try.f11.params[j]? = some t → args[j]? = some v → Value.okWide Try.prog W .any base t v := hval0
  have hW' := hW
  obtain ⟨p, q, hA0, hV, rfl, hfz, hnd⟩ := hW
  have hA : DataW.TrodAll enc Try.prog W 0 (fun _ => true) true Try.f11.params.toList args.toList ds p := hA0
  rw [Try.params11] at hA hval hsz
  obtain ⟨v0, vs0, d0, ds0, p0, q0, hargs, rfl, rfl, h0, r0⟩ := trodAll_cons hA
  obtain ⟨v1, vs1, d1, ds1, p1, q1, rfl, rfl, rfl, h1, r1⟩ := trodAll_cons r0
  obtain ⟨v2, vs2, d2, ds2, p2, q2, rfl, rfl, rfl, h2, r2⟩ := trodAll_cons r1
  obtain ⟨rfl, rfl, rfl⟩ := trodAll_nil r2
  obtain rfl : args = #[v0, v1, v2] := by cases args; simp_all
  obtain ⟨rfl, rfl⟩ := trodVars_none hV
  obtain ⟨a0, len0, cap0, rfl⟩ := okWide_slice Try.underlying22 (hval 0 22 v0 rfl rfl)
  have k0 := h0
  have lt0 : ∀ x ∈ p0, x.block < W.heap.size := by obtain ⟨m, hm⟩ := k0; exact DataW.trod_lt m _ _ _ hm
  have y0 := sized_psteps hsz (j := 0) rfl rfl h0
  have w0 : len0 ≤ cap0 ∧ ∃ l, l.length = len0 ∧ PStepRow W a0 l.length l := by
    obtain ⟨fuel, hf⟩ := h0
    obtain ⟨A, len, cap, l, hcs, hlc, hl, hr⟩ := open_psteprow hf
    simp [Value.cells] at hcs
    obtain ⟨rfl, rfl, rfl⟩ := hcs
    exact ⟨hlc, l, hl, hr⟩
  obtain ⟨hc0, l0, rfl, hr0⟩ := w0
  have k1 := h1
  have lt1 : ∀ x ∈ p1, x.block < W.heap.size := by obtain ⟨m, hm⟩ := k1; exact DataW.trod_lt m _ _ _ hm
  obtain ⟨n1, b1, rfl⟩ := open_changeval (hval 1 66 v1 rfl rfl) h1
  obtain ⟨a2, rfl, rfl, rfl, w2⟩ := open_int Try.underlying67 (hval 2 67 v2 rfl rfl) h2
  clear hA0 hval0 hsz0 hsz
  refine (law_one l0 a0 cap0 n1 b1 a2 W hr0 hc0 y0 (u16_of w2)).mono fun e W' ⟨he, bel⟩ => ?_
  subst he
  exact ⟨_, rfl, _, _, _, [], _, [], hW', trodAll_mk1 (shut_bool Try.underlying4 _), (trodAll_cons_mk (Below.trod laidOut (by kernel_rfl) (of_decide_eq_true (by kernel_rfl)) k0 bel lt0) (trodAll_cons_mk (Below.trod laidOut (by kernel_rfl) (of_decide_eq_true (by kernel_rfl)) k1 bel lt1) (trodAll_cons_mk (shut_int Try.underlying67 w2) trodAll_mk0))), rfl, bel.frame _, fun h => by cases h⟩
theorem over : Rows.piqueOneRow.holds Try.pinned (OpenSpec.ofChange Rows.piqueOneSpec) :=
  OpenClaim.holds_of_wide 11 Try.f11 rfl rfl rfl rfl rfl rfl rfl ⟨rfl, rfl, rfl, rfl, rfl⟩ rfl rfl rfl rfl rfl (by kernel_rfl) Try.func11 (by kernel_rfl)
    (of_decide_eq_true (by kernel_rfl)) (by unfold Func.isWrapper; first | (rw [if_pos (by decide +kernel)]; kernel_rfl) | (rw [if_neg (by decide +kernel)]; exact ⟨rfl, rfl⟩))
    (fun os started H enc _ => lifted os started H enc)
end Go.Proofs.Ytemkloildadokaa.PiqueOne
namespace Go.Proofs.Ytemkloildadokaa
/-- The row. -/
theorem PiqueOne_holds : Rows.PiqueOneSaid := PiqueOne.over
#print axioms PiqueOne_holds
end Go.Proofs.Ytemkloildadokaa
