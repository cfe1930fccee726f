/-
  Texts of one hand, laid together: LawPiqueBridged.
-/
import Derived.Test.YtemkloildadokaaZD
import Derived.Test.YtemkloildadokaaZH
import Derived.Test.YtemkloildadokaaZC
import Derived.Test.YtemkloildadokaaZE
import Derived.Test.YtemkloildadokaaZI
import Derived.Test.YtemkloildadokaaRows
import Derived.ProofKit
import Derived.OpenShut
import Derived.ShutString
import Derived.ChangeOld
import Derived.SizedLaws
set_option linter.unusedVariables false
set_option linter.unusedSimpArgs false
/-! The theorem of bridges: for every line and every change of it, what the change leaves at the end is told by the bridges of the line alone; and the chapter's examples are as they are stated. -/
namespace Go.Proofs.Ytemkloildadokaa
open Go.RowKit Go.Shelf Go.Proofs.YtemkloildadokaaW.PrintWords
attribute [local go_sem] Oper.semAt_some
theorem own_slice9 {α : Type} {d : Kd α} {e base n c : Nat} {w : World} {A : Option Addr} {xs : List α} (h : Own d e w base (.slice A n c) xs) : n = xs.length ∧ d.C w A n xs := by
  obtain ⟨A', c', he, h1, h2⟩ := own_reads' h
  cases he
  exact ⟨rfl, h2⟩
theorem wp_rangeB {P : Program} {g : Operand} {assign body : Code} {Q : Exit → Act → World → Prop} {a : Act} {w : World} {gf : Nat} {lb : Array Value} (hg : a.eval g = .func (.func gf) #[] lb) (eg : ∀ args w, (callFunc gf args).run P w = .ok (.enter gf args) w)
    {Kp : World → World → Prop} {S Sp : List (Int × Int) → Prop} {N : Nat} {w0 : World} (hseq : SeqStopsK Fence.wide 2 P gf lb encB Kp S Sp N w0)
    (hKt : ∀ {A B C : World}, Kp A B → Kp B C → Kp A C) (hKb : ∀ (W : World) (l : Nat) (o o' : Obj), w.heap.size ≤ l → W.heap[l]? = some o → o.isCells = false → o.isWalk = false → Kp W (W.putObj l o')) (hKr : ∀ W, Kp W W) (hb0 : Below w0.heap.size w0 w)
    (I : List (Int × Int) → World → Prop) (hI : OwnFrom w.heap.size I) (h0 : I [] w)
    (hassign : ∀ (L : Nat) (x : Int × Int) (W : World) (K : Act → World → Prop), K { tmps := ((a.tmps.setIfInBounds 187 (.int .i64 x.1)).setIfInBounds 188 (.int .i64 x.2)).setIfInBounds 25 (.int .i64 x.2), defers := [] } W →
      assign.wpIn (Fence.wide.inRound L) 1 P (Exit.then K (fun _ _ _ => False)) { tmps := ((#[187, 188] : Array Tmp).zip (encB x)).foldl (fun t (p, v) => t.setIfInBounds p v) a.tmps, defers := [] } W)
    (hbody : ∀ (L : Nat) (pre : List (Int × Int)) (x : Int × Int) (W : World), w.heap.size ≤ L → (∃ r, W.heap[L]? = some (.loop r)) → I pre W → pre.length < N → body.wpIn (Fence.wide.inRound L) 1 P (ownPostG w.heap.size Kp I (fun _ _ _ => False) (pre ++ [x]) W) { tmps := ((a.tmps.setIfInBounds 187 (.int .i64 x.1)).setIfInBounds 188 (.int .i64 x.2)).setIfInBounds 25 (.int .i64 x.2), defers := [] } W)
    (hdone : ∀ (D : Nat) (xs : List (Int × Int)) (W : World), w.heap.size ≤ D → S xs → I xs W → W.heap[D]? = some (.deferred (some [])) → Q .normal { a with defers := { target := .collected D, args := #[] } :: a.defers } W) :
    (Code.rangeFunc g #[187, 188] assign body).wpIn Fence.wide 3 P Q a w :=
  wpIn_rangeFunc_ownH rfl (by omega) hg trivial eg hseq hKt hKb hb0 (fun _ => rfl) I (fun _ _ _ => False) hI (fun _ _ _ _ _ h _ _ => h) h0
    (fun x a' _ => a' = { tmps := ((a.tmps.setIfInBounds 187 (.int .i64 x.1)).setIfInBounds 188 (.int .i64 x.2)).setIfInBounds 25 (.int .i64 x.2), defers := [] }) (fun _ _ _ _ _ _ h _ _ => h)
    (fun L pre x W K hi hK => hassign L x W K (hK _ _ (KeepsFrom.refl _ W) (hKr W) hi rfl))
    (fun L pre x a' W hL hr hi ha hp => by subst ha; exact hbody L pre x W hL hr hi hp) hdone (fun _ _ _ _ _ _ h _ => h.elim)
set_option maxRecDepth 100000 in
set_option maxHeartbeats 16000000 in
theorem brid_a (l : List PStep) (A : Option Addr) (c : Nat) (s : PStep) (drop : Bool) (q : PWant) (r : PRes) (hq : q = wantE l s drop) (hre : r = changedE l s drop) (w : World) (hr : PStepRow w A l.length l) (hc : l.length ≤ c) (hs : l.length * 24 ≤ 140737488351232)
    (hcase : (lineB l = false) ∨ (lineB l = true ∧ q.can = false) ∨ (lineB l = true ∧ q.can = true ∧ lineB q.line = false) ∨ ((lineB l = true ∧ q.can = true ∧ lineB q.line = true) ∧ (r.more = true ∨ (r.more = false ∧ drop = true ∧ (⟨q.step.key, q.step.at_⟩ : PElem) ∈ thereE l l.length)))) :
    Calls Try.prog 13 #[.slice A l.length c, .agg #[.int .i64 s.at_, .int .i64 s.do_, .int .i64 s.key, .bool drop]] w fun e w' => e = .returned (.bool true) ∧ Below w.heap.size w w' := by
  have PW := Lib.hid (fun W h => law_want A c l s drop W h hc hs)
  have PG := Lib.hid (fun W h => r_Good A l.length c l W rfl h)
  have PG2 := Lib.hid (fun A c n W hn h => r_Good A n c (wantE l s drop).line W hn h)
  have PC := Lib.hid (law_changed A c l s drop)
  have PB := Lib.hid (fun W h => p_Bridges A c l W h hc)
  have PA := Lib.hid (fun W h => p_At A c l 1000 W h hc)
  have hct := fun a b c => changed_told (l := l) (s := s) (drop := drop) a b c
  have hcl := fun a b c => changed_last (l := l) (s := s) (drop := drop) a b c
  rw [← hq] at PW PG2 hct hcl
  rw [← hre] at PC hct hcl
  clear hq hre
  have HX := Lib.hid (Cells.new w #[.int .i64 s.at_, .int .i64 s.do_, .int .i64 s.key, .bool drop] 66)
  have HB := Lib.hid (below_alloc (Below.refl w.heap.size w) (.cells #[.int .i64 s.at_, .int .i64 s.do_, .int .i64 s.key, .bool drop] 66))
  have HR := Lib.hid (Kd.C_below hr HB.out)
  have Hcase := Lib.hid hcase
  have hr0 := Lib.hid hr
  clear hr hcase
  go_enter Try.func13, Try.ntmps13
  go_upto_region 1 with fail
  generalize w.alloc (.cells #[.int .i64 s.at_, .int .i64 s.do_, .int .i64 s.key, .bool drop] 66) = w1 at HX HB HR ⊢
  have x0 := HX.out.cell 0 _ rfl
  have x1 := HX.out.cell 1 _ rfl
  have x2 := HX.out.cell 2 _ rfl
  have x3 := HX.out.cell 3 _ rfl
  go_upto_region 2 with (go_at_call 44; (with_reducible refine (PW.out w1 HR.out).mono ?_); rintro e w2 ⟨v2, rfl, ho2, hb2⟩; obtain ⟨Am, cm, rfl, hcm, hrm⟩ := own_reads' ho2; have HB2 := Lib.hid hb2; have HM2 := Lib.hid hrm; clear ho2 hrm hb2)
  clear x0 x1 x2 x3
  have hsw2 : w.heap.size ≤ w2.heap.size := Nat.le_trans HB.out.size HB2.out.size
  obtain ⟨k1, k2, hba⟩ := two_new w2 ((w2.alloc (.cells #[.int .i64 q.step.at_, .int .i64 q.step.do_, .int .i64 q.step.key] 36)).alloc (.cells #[.int .i64 q.place] 3)) _ _ _ _ (by simpa using Below.refl _ _)
  have HQ3 := Lib.hid k1
  have HP3 := Lib.hid k2
  have HB3 := Lib.hid (below_step HB2.out hba)
  have HM3 := Lib.hid (Kd.C_below HM2.out hba)
  have HX3 := Lib.hid (HX.out.later HB3.out)
  have HR3 := Lib.hid (Kd.C_below HR.out HB3.out)
  clear hba HM2 HB2 k1 k2
  generalize (w2.alloc (.cells #[.int .i64 q.step.at_, .int .i64 q.step.do_, .int .i64 q.step.key] 36)).alloc (.cells #[.int .i64 q.place] 3) = w3 at HQ3 HP3 HB3 HM3 HX3 HR3 ⊢
  rcases Hcase.out with g1 | ⟨g1, g2⟩ | ⟨g1, g2, g3⟩ | ⟨⟨g1, g2, g3⟩, hmore⟩
  · rw [g1] at PG
    go_wp2_with (first | (go_at_call 34; (with_reducible refine (PG.out w3 HR3.out).mono ?_); rintro e w4 ⟨rfl, hb4⟩; have HBx := Lib.hid hb4; have HB4 := Lib.hid (below_step HB3.out hb4); clear hb4) | (go_at_call 20; (with_reducible refine (known_true _).mono ?_); rintro e w9 ⟨rfl, hb9⟩))
    go_ret
    exact ⟨rfl, below_step HB.out (below_step HB4.out hb9)⟩
  · rw [g1] at PG
    go_wp2_with (first | (go_at_call 34; (with_reducible refine (PG.out w3 HR3.out).mono ?_); rintro e w4 ⟨rfl, hb4⟩; have HBx := Lib.hid hb4; have HB4 := Lib.hid (below_step HB3.out hb4); clear hb4) | (go_at_call 20; (with_reducible refine (known_true _).mono ?_); rintro e w9 ⟨rfl, hb9⟩))
    go_ret
    exact ⟨rfl, below_step HB.out (below_step HB4.out hb9)⟩
  · rw [g1] at PG
    rw [g3] at PG2
    go_wp2_with (first | (go_at_call 34; (with_reducible refine (PG.out w3 HR3.out).mono ?_); rintro e w4 ⟨rfl, hb4⟩; have HBx := Lib.hid hb4; have HB4 := Lib.hid (below_step HB3.out hb4); clear hb4) | (go_at_call 34; (with_reducible refine (PG2.out Am cm q.line.length w4 rfl (Kd.C_below HM3.out HBx.out)).mono ?_); rintro e w5 ⟨rfl, hb5⟩; have HB5 := Lib.hid (below_step HB4.out hb5); clear hb5) | (go_at_call 20; (with_reducible refine (known_true _).mono ?_); rintro e w9 ⟨rfl, hb9⟩))
    go_ret
    exact ⟨rfl, below_step HB.out (below_step HB5.out hb9)⟩
  · skip
    obtain ⟨t1, -, -, t4⟩ := hct g1 g2 g3
    obtain ⟨g, hgl, hok, hple, hplt⟩ := hcl g1 g2 g3
    have h60 : l.length ≤ 60 := (line_of g1).len
    rw [g1] at PB PA PG
    rw [g3] at PG2
    simp only [if_true] at PB PA
    rw [there_end g1] at PA
    have hel : (thereE l l.length).length ≤ 60 := by rw [← there_end g1]; exact Nat.le_trans (at_len l 1000) h60
    obtain ⟨en, hen⟩ : ∃ en, en = thereE l l.length := ⟨_, rfl⟩
    have Hen := Lib.hid hen
    rw [← hen] at PA hel
    obtain ⟨bs, hbs⟩ : ∃ bs, bs = bridgesE l := ⟨_, rfl⟩
    have Hbs := Lib.hid hbs
    rw [← hbs] at PB
    have hbl : bs.length = (bridgesN l).length := by rw [hbs, bridgesE_len]
    have hbp : 0 < bs.length := by rw [hbl]; exact (List.getElem?_eq_some_iff.1 (bridgesN_first l)).1
    have hbm : bs.length ≤ 61 := by rw [hbl]; have := bridgesN_le l; omega
    obtain ⟨bm, hbm1⟩ : ∃ bm, bs.length = bm + 1 := ⟨bs.length - 1, by omega⟩
    have hb0 : bs[0]? = some (0 : Int) := by rw [hbs, bridgesE_N, List.getElem?_map, bridgesN_first]; rfl
    have hbe : bs[bm]? = some (l.length : Int) := by
      have := bridgesN_last l
      rw [← hbl, hbm1, Nat.add_sub_cancel] at this
      rw [hbs, bridgesE_N, List.getElem?_map, this]; rfl
    have hbsort : ∀ i x y, bs[i]? = some x → bs[i + 1]? = some y → x ≤ y := fun i x y hx hy => by
      rw [hbs] at hx hy
      obtain ⟨a, rfl, ha⟩ := bridges_at hx
      obtain ⟨b, rfl, hb⟩ := bridges_at hy
      have := bridgesN_lt (Nat.lt_succ_self i) ha hb
      omega
    have Hb0 := Lib.hid hb0
    have Hbe := Lib.hid hbe
    have Hbsort := Lib.hid hbsort
    have Hbl := Lib.hid hbl
    have hspl : 0 < r.spans.length := by
      cases hsn : r.spans with
      | nil => rw [hsn] at hgl; cases hgl
      | cons _ _ => simp
    obtain ⟨sk, hsk⟩ : ∃ sk, r.spans.length = sk + 1 := ⟨r.spans.length - 1, by omega⟩
    have hgk : r.spans[sk]? = some g := by rw [List.getLast?_eq_getElem?, hsk, Nat.add_sub_cancel] at hgl; exact hgl
    have Hgk := Lib.hid hgk
    obtain ⟨p, hp⟩ : ∃ p, p = q.place := ⟨_, rfl⟩
    rw [← hp] at hok hple hplt HP3
    obtain ⟨own, hown0⟩ : ∃ own : PElem, own = ⟨q.step.key, q.step.at_⟩ := ⟨_, rfl⟩
    rw [← hown0] at hok
    rw [← hown0] at hmore
    obtain ⟨mo, hmo⟩ : ∃ mo, mo = r.more := ⟨_, rfl⟩
    rw [← hmo] at hok hmore
    have Hmo := Lib.hid hmo
    clear hmo
    have Hown0 := Lib.hid hown0
    have Hok := Lib.hid hok
    have Hsk := Lib.hid hsk
    have hskn : sk < r.spans.length := by omega
    have hskI : (sk : Int) < (r.spans.length : Int) := by omega
    have hbmn : bm < bs.length := by omega
    have hbmI : (bm : Int) < (bs.length : Int) := by omega
    have hbpI : (0 : Int) < (bs.length : Int) := by omega
    have hz1 : ((r.spans.length : Int) == 0) = false := by simp only [beq_eq_false_iff_ne]; omega
    have hz2 : ((bs.length : Int) == 0) = false := by simp only [beq_eq_false_iff_ne]; omega
    have hz3 : ¬ r.spans = [] := fun e => by rw [e] at hspl; cases hspl
    have hz4 : ¬ bs = [] := fun e => by rw [e] at hbp; cases hbp
    have hwb : IntKind.i64.wrap ((bs.length : Int) - 1) = (bm : Int) := by rw [IntWalk.i64_in _ (by omega)]; omega
    have G1 := Lib.hid g1
    rw [← hp]
    clear hct hcl g1 g3 t4 hgl hok hen hbs hbl hb0 hbe hbsort hgk hown0 hp Hcase hsk hbm1
    go_upto_region 4 with (go_at_call 34; first
      | ((with_reducible refine (PG.out w3 HR3.out).mono ?_); rintro e w4 ⟨rfl, hb4⟩; have HB4 := Lib.hid hb4; clear hb4)
      | ((with_reducible refine (PG2.out Am cm q.line.length w4 rfl (Kd.C_below HM3.out HB4.out)).mono ?_); rintro e w5 ⟨rfl, hb5⟩; have HB5 := Lib.hid (below_step HB4.out hb5); clear hb5))
    go_upto_region 5 with (go_at_call 16; (with_reducible refine (PB.out w5 (Kd.C_below HR3.out HB5.out)).mono ?_); rintro e w6 ⟨⟨v6, rfl, ho6⟩, hb6⟩; have hbp3 := HP3.out.lt; have hs35 := HB5.out.size; obtain ⟨Ab, cb, rfl, hcb, hrb⟩ := own_reads' ho6; have HOb6 := Lib.hid ho6; have HB6 := Lib.hid (below_step HB5.out hb6); have Hbr := Lib.hid hrb; clear ho6 hrb hb6)
    go_upto_region 6 with (go_at_call 29; (with_reducible refine (PA.out w6 (Kd.C_below HR3.out HB6.out)).mono ?_); rintro e w7 ⟨⟨v7, rfl, ho7⟩, hb7⟩; obtain ⟨Ae, ce, rfl, hce, hre⟩ := own_reads' ho7; have HB7 := Lib.hid (below_step HB6.out hb7); have Hbr7 := Lib.hid (Kd.C_below Hbr.out hb7); have Her := Lib.hid hre; have HOe7 := Lib.hid ho7; have Hb67 := Lib.hid hb7; have hs36 := HB6.out.size; have hs67 := hb7.size; clear ho7 hre hb7)
    have HE8 := Lib.hid (Cells.new w7 #[.slice Ae en.length ce] 23)
    have hba := below_alloc (Below.refl w7.heap.size w7) (.cells #[.slice Ae en.length ce] 23)
    have HB8 := Lib.hid (below_step HB7.out hba)
    have Hbr8 := Lib.hid (Kd.C_below Hbr7.out hba)
    have Her8 := Lib.hid (Kd.C_below Her.out hba)
    have Hb78 := Lib.hid hba
    clear hba Hbr Hbr7 Her HB7 HB6
    generalize w7.alloc (.cells #[.slice Ae en.length ce] 23) = w8 at HE8 HB8 Hbr8 Her8 Hb78 ⊢
    have HX8 := Lib.hid (HX3.out.later HB8.out)
    have x0 := HX8.out.cell 0 _ rfl
    have x1 := HX8.out.cell 1 _ rfl
    have x2 := HX8.out.cell 2 _ rfl
    have x3 := HX8.out.cell 3 _ rfl
    go_upto_region 7 with (go_at_call 45; (with_reducible refine (PC.out w8 (Kd.C_below HR3.out HB8.out)).mono ?_); rintro e w9 ⟨⟨vo2, vt2, rfl, ho2, ht2⟩, hb2⟩; rw [t1, ← Hmo.out]; obtain ⟨A2, n2, c2, rfl⟩ := R_slice' ho2; obtain ⟨B2, d2, rfl, hd2, hs2⟩ := own_reads' ht2; have HB9 := Lib.hid (below_step HB8.out hb2); have Hb89 := Lib.hid hb2; have Hbr9 := Lib.hid (Kd.C_below Hbr8.out hb2); have Her9 := Lib.hid (Kd.C_below Her8.out hb2); have HE9 := Lib.hid (HE8.out.later hb2); have HS9 := Lib.hid hs2; clear hb2 hs2 ho2 ht2)
    clear x0 x1 x2 x3 t1
    have HW10 := Lib.hid (Cells.new w9 #[.bool mo, .slice B2 r.spans.length d2] 39)
    have hba := below_alloc (Below.refl w9.heap.size w9) (.cells #[.bool mo, .slice B2 r.spans.length d2] 39)
    have HB10 := Lib.hid (below_step HB9.out hba)
    have Hbr10 := Lib.hid (Kd.C_below Hbr9.out hba)
    have Her10 := Lib.hid (Kd.C_below Her9.out hba)
    have HE10 := Lib.hid (HE9.out.later hba)
    have HS10 := Lib.hid (Kd.C_below HS9.out hba)
    have hb1l := HE9.out.lt
    have HOb10 := Lib.hid (Kd.R_below HOb6.out (below_step (below_step (below_step Hb67.out Hb78.out) Hb89.out) hba))
    have HOe10 := Lib.hid (Kd.R_below HOe7.out (below_step (below_step Hb78.out Hb89.out) hba))
    clear HOb6 HOe7 Hb67 Hb78 Hb89
    clear hba Hbr8 Hbr9 Her8 Her9 HE8 HE9 HS9 HB9 HB8 HX8 HB5 HB4
    generalize w9.alloc (.cells #[.bool mo, .slice B2 r.spans.length d2] 39) = w10 at HW10 HB10 Hbr10 Her10 HE10 HS10 HOb10 HOe10 ⊢
    have HR10 := Lib.hid (Kd.C_below HR3.out HB10.out)
    have HX10 := Lib.hid (HX3.out.later HB10.out)
    have HQ10 := Lib.hid (HQ3.out.later HB10.out)
    have HP10 := Lib.hid (HP3.out.later HB10.out)
    have HBw := Lib.hid (below_step HB.out (below_step HB3.out HB10.out))
    clear HX HX3 HQ3 HP3 HR3 HM3 HB3 HB HR PC PB PA PG PG2 PW
    obtain ⟨y0, ady, -, -, hy0, hAy, f0⟩ := int_at Hbr10.out 0 hbp
    rw [show ady.add 0 = ady by cases ady; simp [Addr.add]] at f0
    obtain rfl : (0 : Int) = y0 := by rw [Hb0.out] at hy0; cases hy0; rfl
    subst hAy
    obtain ⟨y1, ady1, -, -, hy1, hAy, f1⟩ := int_at Hbr10.out bm hbmn
    cases hAy
    obtain rfl : (l.length : Int) = y1 := by rw [Hbe.out] at hy1; cases hy1; rfl
    have F0 := Lib.hid f0
    have F1 := Lib.hid f1
    have w0c := HW10.out.cell 0 _ rfl
    have w1c := HW10.out.cell 1 _ rfl
    clear hy0 hy1
    go_upto_region 9 with (go_at_call 55; (with_reducible refine (lib_issorted (some ady) bs.length cb bs w10 rfl Hbr10.out Hbsort.out).mono ?_); rintro e w11 ⟨rfl, hb11⟩; have HB11 := Lib.hid hb11; have f0 := cell_keep hb11 F0.out; have f1 := cell_keep hb11 F1.out; have w0c := cell_keep hb11 w0c; have w1c := cell_keep hb11 w1c; clear hb11)
    clear f0 f1 F0 F1 hz1 hz2 hz3 hz4
    have hspm : r.spans.length ≤ 9223372036854775807 := HS10.out.2.1
    have hwk : IntKind.i64.wrap ((r.spans.length : Int) - 1) = (sk : Int) := by rw [IntWalk.i64_in _ (by omega)]; have := Hsk.out; omega
    obtain ⟨g', adg, -, -, hg', hAg, g0, g1, g2, g3⟩ := pspan_at (Kd.C_below HS10.out HB11.out) sk hskn
    obtain rfl : g = g' := by rw [Hgk.out] at hg'; cases hg'; rfl
    subst hAg
    clear hg' g0 g1
    go_upto_region 10 with fail
    have HG12 := Lib.hid (Cells.new w11 #[.int .i64 g.elem.key, .int .i64 g.elem.from_] 58)
    have hba := below_alloc (Below.refl w11.heap.size w11) (.cells #[.int .i64 g.elem.key, .int .i64 g.elem.from_] 58)
    have HB12 := Lib.hid (below_step HB11.out hba)
    clear hba g2 g3 hwk w1c hskI hskn
    generalize w11.alloc (.cells #[.int .i64 g.elem.key, .int .i64 g.elem.from_] 58) = w12 at HG12 HB12 ⊢
    have w0c := (HW10.out.later HB12.out).cell 0 _ rfl
    have hsf : ∀ (a : Addr) (fn : Fn) (first cap : Array Value) (m : Mode) (w : World), (store a (.func fn first cap) m).run Try.prog w = stored Try.prog w a (.func fn first cap) m := fun _ _ _ _ _ _ => run_store _ _ _ _ _ rfl
    go_upto_region 11 with fail
    have hs311 : w3.heap.size ≤ w11.heap.size := Nat.le_trans HB10.out.size HB11.out.size
    have hs312 : w3.heap.size ≤ w12.heap.size := Nat.le_trans HB10.out.size HB12.out.size
    have HF13 := Lib.hid (Cells.new w12 #[.func (.func 56) #[] #[.pointer (some ⟨w7.heap.size, 0, none⟩)]] 84)
    have hba := below_alloc (Below.refl w12.heap.size w12) (.cells #[.func (.func 56) #[] #[.pointer (some ⟨w7.heap.size, 0, none⟩)]] 84)
    have HB13 := Lib.hid (below_step HB12.out hba)
    have HG13 := Lib.hid (HG12.out.later hba)
    have hb1n : w7.heap.size < w12.heap.size := by have a := HW10.out.lt; have b := HB12.out.size; omega
    clear hba w0c HG12
    generalize w12.alloc (.cells #[.func (.func 56) #[] #[.pointer (some ⟨w7.heap.size, 0, none⟩)]] 84) = w13 at HF13 HB13 HG13 ⊢
    have HEnd := Lib.hid (show EndAt w13 w7.heap.size w12.heap.size Ae en.length ce en from ⟨HE10.out.later HB13.out, HF13.out, Kd.C_below Her10.out HB13.out, rfl⟩)
    have HX13 := Lib.hid (HX10.out.later HB13.out)
    have HQ13 := Lib.hid (HQ10.out.later HB13.out)
    have HP13 := Lib.hid (HP10.out.later HB13.out)
    have HR13 := Lib.hid (Kd.C_below HR10.out HB13.out)
    have Hbr13 := Lib.hid (Kd.C_below Hbr10.out HB13.out)
    have HOb13 := Lib.hid (Kd.R_below HOb10.out HB13.out)
    have HOe13 := Lib.hid (Kd.R_below HOe10.out HB13.out)
    have hs713 : w7.heap.size < w13.heap.size := (HE10.out.later HB13.out).lt
    have hs1213 : w12.heap.size < w13.heap.size := HF13.out.lt
    have HBw13 := Lib.hid (below_step HBw.out HB13.out)
    have w0c := (HW10.out.later HB13.out).cell 0 _ rfl
    skip
    clear HE10 HF13 Her10 HX10 HQ10 HP10 HR10 Hbr10 HBw HW10 HB12 HB11 HS10 Hgk Hb0 Hbe Hbsort hspl hbp hbmn hbmI hspm hwb HB13
    rcases hmore with hm | ⟨hm, hd, hin⟩
    · have HOk := Lib.hid (Hok.out.up hm)
      subst hm
      go_wp2
      go_loopw [122, 18] (fun i v wr => ∃ k vv : Nat, k ≤ bs.length ∧ i = .int .i64 k ∧ v = .int .i64 vv ∧ Hid (LastI l p k vv) ∧ Below w13.heap.size w13 wr) (fun i _ _ => bs.length - (intOf i).toNat)
      case atStart => exact ⟨0, 0, Nat.zero_le _, rfl, rfl, Lib.hid (LastI.start l p), Below.refl _ _⟩
      case round =>
        obtain ⟨k, vv, hk, rfl, rfl, HI, hB⟩ := hrel
        have HBr := Lib.hid hB
        clear hB w0c
        by_cases hlt : k < bs.length
        · obtain ⟨x, ad, -, -, hget, hAd, e0⟩ := int_at (Kd.C_below Hbr13.out HBr.out) k hlt
          cases hAd
          obtain ⟨b, hxb, hb⟩ := bridges_at (by rw [← Hbs.out]; exact hget)
          rw [hxb] at e0
          have HN := Lib.hid (HI.out.next hb)
          have pc := (HP13.out.later HBr.out).cell 0 _ rfl
          have hkn : k + 1 ≤ bs.length := hlt
          clear hget hxb hb
          by_cases hbp : b ≤ p
          · have hbI : (b : Int) ≤ (p : Int) := by omega
            have HN2 := Lib.hid (show LastI l p (k + 1) b by have := HN.out; rw [if_pos hbp] at this; exact this)
            clear HN
            go_wp2
            exact ⟨⟨k + 1, b, hkn, by go_num, rfl, HN2, HBr.out⟩, by simp [intOf]; omega⟩
          · have hbI : ¬ (b : Int) ≤ (p : Int) := by omega
            have HN2 := Lib.hid (show LastI l p (k + 1) vv by have := HN.out; rw [if_neg hbp] at this; exact this)
            clear HN
            go_wp2
            exact ⟨⟨k + 1, vv, hkn, by go_num, rfl, HN2, HBr.out⟩, by simp [intOf]; omega⟩
        · have HL := Lib.hid (show IsLast l p vv by have := HI.out; rw [show k = (bridgesN l).length by have := Hbl.out; omega] at this; exact this.done hple)
          have HMx := Lib.hid (HOk.out vv HL.out)
          have hvl : vv ≤ l.length := Nat.le_trans HL.out.le hple
          have hvc : vv ≤ c := by omega
          have hvlI : (vv : Int) ≤ (l.length : Int) := by omega
          have hkI : ¬ (k : Int) < (bs.length : Int) := by omega
          have HRr := Lib.hid (Kd.C_below HR13.out HBr.out)
          have hcl : (cameE (l.drop vv)).length ≤ 60 := Nat.le_trans (came_le _) (by rw [List.length_drop]; omega)
          have hsl : (sinceE l vv).length ≤ 60 := Nat.le_trans (List.length_filter_le _ _) hcl
          clear HI HOk HL hlt hk
          go_upto_region 20 with (first
            | (go_at_call 50; (generalize hAD : (if c = vv then A else Option.map (fun x => x.add (vv * 3)) A) = AD); have HRd := Lib.hid (stepRow_drop (m := l.length - vv) (B := AD) HRr.out vv hvl rfl (by by_cases h : c = vv; (left; omega); (right; rw [← hAD, if_neg h]))); clear hAD; (with_reducible refine (law_came AD (l.length - vv) _ (l.drop vv) wr ?ca ?cb HRd.out).mono ?_); (case ca => rw [List.length_drop]); (case cb => omega); rintro e w14 ⟨v14, rfl, ho14, hb14⟩; have HO14 := Lib.hid ho14; have HB14 := Lib.hid hb14; clear ho14 hb14)
            | (go_at_call 58; (with_reducible refine (lib_struck2 wr.heap.size v14 (cameE (l.drop vv)) w7.heap.size w12.heap.size Ae en.length ce en wr w14 (HEnd.out.later HBr.out) rfl HB14.out HO14.out hcl).mono ?_); rintro e w15 ⟨v15, rfl, ho15, hb15⟩; have HO15 := Lib.hid ho15; have HB15 := Lib.hid (HB14.out.trans hb15); clear ho15 hb15))
          have HS15 := Lib.hid (show Own kPElem 58 w15 wr.heap.size v15 (sinceE l vv) by have := HO15.out; rw [Hen.out] at this; exact this)
          have HB15w := Lib.hid (below_step HBr.out HB15.out)
          have x3 := (HX13.out.later HB15w.out).cell 3 _ rfl
          have hsz15 : wr.heap.size ≤ w15.heap.size := HB15.out.size
          clear HO15 HO14 HB14
          cases drop
          · simp only [Bool.false_eq_true, if_false] at HMx
            have hq' := HQ13.out.later HB15w.out
            have q0 := hq'.cell 0 _ rfl
            have q2 := hq'.cell 2 _ rfl
            go_upto_region 22 with (first
              | (go_at_call 42; (with_reducible refine (law_elem q.step.key q.step.at_ w15).mono ?_); rintro e w16 ⟨rfl, hb16⟩; have HO16 := Lib.hid (Kd.R_below HS15.out hb16); have HB16 := Lib.hid (below_step HB15w.out hb16); have hsz16 : wr.heap.size ≤ w16.heap.size := Nat.le_trans hsz15 hb16.size; clear hb16)
              | (at_builtin; refine Kd.R_append kPElem (w0 := w16) wr.heap.size rfl (.tmp 140) (.tmp 146) 23 58 zElem 16 rfl Try.underlying23 info_pelem rfl (by decide) (by omega) _ (sinceE l vv) ⟨q.step.key, q.step.at_⟩ (pelemCells ⟨q.step.key, q.step.at_⟩) (fun _ => True) (fun _ => False) rfl rfl (kPElem_mkM _ _ _ _) (fun _ hk => hk.elim) (fun _ _ => trivial) HO16.out (Below.refl _ _) hsz16 (by omega) ?_; intro v17 w17 r1 r2 r3 r4; have HS17 := Lib.hid r1; have HB17 := Lib.hid (HB16.out.trans (r2.mono HBr.out.size)); clear r1 r2 r3 r4))
            rw [← Hown0.out] at HS17
            obtain ⟨XS, hXS⟩ : ∃ XS, XS = sinceE l vv ++ [own] := ⟨_, rfl⟩
            have hxl : XS.length ≤ 61 := by rw [hXS, List.length_append]; simp; omega
            rw [← hXS] at HS17 HMx
            clear hXS
            obtain ⟨Ax, cx, rfl, hcx, hrx⟩ := own_reads' HS17.out
            have HRx := Lib.hid hrx
            have hmx1 := HMx.out.1
            have HMa := Lib.hid HMx.out.1
            have HMb := Lib.hid HMx.out.2
            have hxp : 0 < XS.length := List.length_pos_of_mem hmx1
            have hxpI : (0 : Int) < (XS.length : Int) := by omega
            have hqe : pElemEq ⟨g.elem.key, g.elem.from_⟩ ⟨g.elem.key, g.elem.from_⟩ = true := by simp [pElemEq]
            have HG17 := Lib.hid (HG13.out.later HB17.out)
            clear hrx hmx1 q0 q2 hq' x3
            refine wp_region_flow [.free 0, .free 1, .free 2, .free 3, .calm 4, .free 5, .calm 6, .free 7, .free 8, .free 9, .calm 10, .free 11, .free 12] (Below w17.heap.size w17) (Below w17.heap.size w17) (stable_below _ _ (Nat.le_refl _)) (fun _ h => h) (by kernel_rfl) (by kernel_rfl) (below_drew1 (Below.refl _ _)) ?_
            simp only [pickEnts, pickF, List.getElem?_cons_succ, List.getElem?_cons_zero, List.filterMap_cons, List.filterMap_nil, Option.map_some]
            repeat ((first | refine flow_calm (fun K hK => ?_) | refine flow_free (fun K hK => ?_) | refine float_calm (fun K hK => ?_) | refine float_free (fun K hK => ?_)); go_simp; first | (refine hK _ ?_; clear hK K) | (apply Exists.intro; (refine ⟨fun X => ?_, hK _ ?_⟩); (first | (intro hC; rfl) | rfl | (intro hC; have g' := HG17.out.later hC.out; have g0 := g'.cell 0 _ rfl; have g1 := g'.cell 1 _ rfl; go_simp; done) | (intro hC; have g' := HG17.out.later hC.out; have g0 := g'.cell 0 _ rfl; have g1 := g'.cell 1 _ rfl; go_simp; rfl) | (intro hC; (with_reducible refine (lib_max Ax XS.length cx XS g.elem _ rfl (Kd.C_below HRx.out hC.out) HMa.out HMb.out).mono ?_); rintro e w' ⟨rfl, hb⟩; exact ⟨rfl, hb⟩) | (intro hC; (with_reducible refine (known_true _).mono ?_); rintro e w' ⟨rfl, hb⟩; exact ⟨rfl, hb⟩)); clear hK K))
            refine flow_nil ?_
            intro Y hC
            have HY := Lib.hid (below_step HB17.out hC.out)
            clear hC
            go_wp2
            go_ret
            exact ⟨rfl, below_step HBw13.out HY.out⟩
          · simp only [if_true] at HMx
            obtain ⟨XS, hXS⟩ : ∃ XS, XS = sinceE l vv := ⟨_, rfl⟩
            have hxl : XS.length ≤ 61 := by rw [hXS]; omega
            rw [← hXS] at HS15 HMx
            clear hXS
            have HS17 := HS15
            go_upto_region 22 with fail
            obtain ⟨Ax, cx, rfl, hcx, hrx⟩ := own_reads' HS17.out
            have HRx := Lib.hid hrx
            have hmx1 := HMx.out.1
            have HMa := Lib.hid HMx.out.1
            have HMb := Lib.hid HMx.out.2
            have hxp : 0 < XS.length := List.length_pos_of_mem hmx1
            have hxpI : (0 : Int) < (XS.length : Int) := by omega
            have hqe : pElemEq ⟨g.elem.key, g.elem.from_⟩ ⟨g.elem.key, g.elem.from_⟩ = true := by simp [pElemEq]
            have HG17 := Lib.hid (HG13.out.later HB15w.out)
            clear hrx hmx1 x3
            refine wp_region_flow [.free 0, .free 1, .free 2, .free 3, .calm 4, .free 5, .calm 6, .free 7, .free 8, .free 9, .calm 10, .free 11, .free 12] (Below w15.heap.size w15) (Below w15.heap.size w15) (stable_below _ _ (Nat.le_refl _)) (fun _ h => h) (by kernel_rfl) (by kernel_rfl) (below_drew1 (Below.refl _ _)) ?_
            simp only [pickEnts, pickF, List.getElem?_cons_succ, List.getElem?_cons_zero, List.filterMap_cons, List.filterMap_nil, Option.map_some]
            repeat ((first | refine flow_calm (fun K hK => ?_) | refine flow_free (fun K hK => ?_) | refine float_calm (fun K hK => ?_) | refine float_free (fun K hK => ?_)); go_simp; first | (refine hK _ ?_; clear hK K) | (apply Exists.intro; (refine ⟨fun X => ?_, hK _ ?_⟩); (first | (intro hC; rfl) | rfl | (intro hC; have g' := HG17.out.later hC.out; have g0 := g'.cell 0 _ rfl; have g1 := g'.cell 1 _ rfl; go_simp; done) | (intro hC; have g' := HG17.out.later hC.out; have g0 := g'.cell 0 _ rfl; have g1 := g'.cell 1 _ rfl; go_simp; rfl) | (intro hC; (with_reducible refine (lib_max Ax XS.length cx XS g.elem _ rfl (Kd.C_below HRx.out hC.out) HMa.out HMb.out).mono ?_); rintro e w' ⟨rfl, hb⟩; exact ⟨rfl, hb⟩) | (intro hC; (with_reducible refine (known_true _).mono ?_); rintro e w' ⟨rfl, hb⟩; exact ⟨rfl, hb⟩)); clear hK K))
            refine flow_nil ?_
            intro Y hC
            have HY := Lib.hid (below_step HB15w.out hC.out)
            clear hC
            go_wp2
            go_ret
            exact ⟨rfl, below_step HBw13.out HY.out⟩
    · have Hgo := Lib.hid (Hok.out.own_ hm hd (by rw [← Hen.out]; exact (by rw [Hen.out]; exact hin)))
      have hcon : en.contains own = true := by rw [List.contains_iff_mem, Hen.out]; exact hin
      subst hm hd
      have HGo1 := Lib.hid (show ∀ W, EndAt W w7.heap.size w12.heap.size Ae en.length ce en → Calls Try.prog 56 #[.agg #[.int .i64 q.step.key, .int .i64 q.step.at_], .pointer (some ⟨w7.heap.size, 0, none⟩)] W fun e w' => e = .returned (.bool false) ∧ Below W.heap.size W w' from fun W h => by have := gone1 own w7.heap.size w12.heap.size Ae en.length ce en W h; rw [hcon, Hown0.out] at this; exact this)
      have hqe : pElemEq ⟨g.elem.key, g.elem.from_⟩ ⟨q.step.key, q.step.at_⟩ = true := by
        have := Hgo.out
        rw [Hown0.out] at this
        simp only [pElemEq, decide_eq_true_eq]
        rw [this]
      have hq' := HQ13.out
      have q0 := hq'.cell 0 _ rfl
      have q2 := hq'.cell 2 _ rfl
      clear hcon hin
      go_upto_region 24 with (go_at_call 42; (with_reducible refine (law_elem q.step.key q.step.at_ w13).mono ?_); rintro e w14 ⟨rfl, hb14⟩; have HB14 := Lib.hid hb14; clear hb14)
      have HO15 := Lib.hid (Cells.new w14 #[.int .i64 q.step.key, .int .i64 q.step.at_] 58)
      have hba := below_alloc (Below.refl w14.heap.size w14) (.cells #[.int .i64 q.step.key, .int .i64 q.step.at_] 58)
      have HB15 := Lib.hid (below_step HB14.out hba)
      clear hba w0c q0 q2 hq'
      generalize w14.alloc (.cells #[.int .i64 q.step.key, .int .i64 q.step.at_] 58) = w15 at HO15 HB15 ⊢
      have HE15 := Lib.hid (HEnd.out.later HB15.out)
      have x3 := (HX13.out.later HB15.out).cell 3 _ rfl
      have o0 := HO15.out.cell 0 _ rfl
      have o1 := HO15.out.cell 1 _ rfl
      have fc := HE15.out.c2.cell 0 _ rfl
      have hg' := HG13.out.later HB15.out
      have g0 := hg'.cell 0 _ rfl
      have g1 := hg'.cell 1 _ rfl
      go_wp2_with (first
        | (go_at_call 56; (with_reducible refine (HGo1.out w15 HE15.out).mono ?_); rintro e w16 ⟨rfl, hb16⟩; have HB16 := Lib.hid (below_step HB15.out hb16); have o0 := cell_keep hb16 o0; have o1 := cell_keep hb16 o1; have g0 := cell_keep hb16 g0; have g1 := cell_keep hb16 g1; clear hb16)
        | (go_at_call 20; (with_reducible refine (known_true _).mono ?_); rintro e w9 ⟨rfl, hb9⟩))
      go_ret
      exact ⟨rfl, below_step HBw13.out (below_step HB16.out hb9)⟩
set_option maxRecDepth 100000 in
set_option maxHeartbeats 16000000 in
theorem brid_b (l : List PStep) (A : Option Addr) (c : Nat) (s : PStep) (drop : Bool) (q : PWant) (r : PRes) (hq : q = wantE l s drop) (hre : r = changedE l s drop) (w : World) (hr : PStepRow w A l.length l) (hc : l.length ≤ c) (hs : l.length * 24 ≤ 140737488351232)
    (hcase : (lineB l = true ∧ q.can = true ∧ lineB q.line = true) ∧ r.more = false ∧ (drop = true → (⟨q.step.key, q.step.at_⟩ : PElem) ∉ thereE l l.length)) :
    Calls Try.prog 13 #[.slice A l.length c, .agg #[.int .i64 s.at_, .int .i64 s.do_, .int .i64 s.key, .bool drop]] w fun e w' => e = .returned (.bool true) ∧ Below w.heap.size w w' := by
  have PW := Lib.hid (fun W h => law_want A c l s drop W h hc hs)
  have PG := Lib.hid (fun W h => r_Good A l.length c l W rfl h)
  have PG2 := Lib.hid (fun A c n W hn h => r_Good A n c (wantE l s drop).line W hn h)
  have PC := Lib.hid (law_changed A c l s drop)
  have PB := Lib.hid (fun W h => p_Bridges A c l W h hc)
  have PA := Lib.hid (fun W h => p_At A c l 1000 W h hc)
  have hct := fun a b c => changed_told (l := l) (s := s) (drop := drop) a b c
  have hcl := fun a b c => changed_last (l := l) (s := s) (drop := drop) a b c
  rw [← hq] at PW PG2 hct hcl
  rw [← hre] at PC hct hcl
  clear hq hre
  have HX := Lib.hid (Cells.new w #[.int .i64 s.at_, .int .i64 s.do_, .int .i64 s.key, .bool drop] 66)
  have HB := Lib.hid (below_alloc (Below.refl w.heap.size w) (.cells #[.int .i64 s.at_, .int .i64 s.do_, .int .i64 s.key, .bool drop] 66))
  have HR := Lib.hid (Kd.C_below hr HB.out)
  have Hcase := Lib.hid hcase
  have hr0 := Lib.hid hr
  clear hr hcase
  refine (callsIn_wide (n := 3)).1 ?_
  refine callsIn_of_wp_marks Try.func13 rfl trivial ?_ rfl
  refine wpIn_wide.2 ?_
  simp only [Try.ntmps13, List.size_toArray, List.length_cons, List.length_nil, Nat.reduceAdd, Nat.reduceSub, Array.replicate_succ, Array.replicate_zero, List.push_toArray, List.append_toArray, List.nil_append, List.cons_append]
  go_upto_region 1 with fail
  generalize w.alloc (.cells #[.int .i64 s.at_, .int .i64 s.do_, .int .i64 s.key, .bool drop] 66) = w1 at HX HB HR ⊢
  have x0 := HX.out.cell 0 _ rfl
  have x1 := HX.out.cell 1 _ rfl
  have x2 := HX.out.cell 2 _ rfl
  have x3 := HX.out.cell 3 _ rfl
  go_upto_region 2 with (go_at_call 44; (with_reducible refine (PW.out w1 HR.out).mono ?_); rintro e w2 ⟨v2, rfl, ho2, hb2⟩; obtain ⟨Am, cm, rfl, hcm, hrm⟩ := own_reads' ho2; have HB2 := Lib.hid hb2; have HM2 := Lib.hid hrm; clear ho2 hrm hb2)
  clear x0 x1 x2 x3
  have hsw2 : w.heap.size ≤ w2.heap.size := Nat.le_trans HB.out.size HB2.out.size
  obtain ⟨k1, k2, hba⟩ := two_new w2 ((w2.alloc (.cells #[.int .i64 q.step.at_, .int .i64 q.step.do_, .int .i64 q.step.key] 36)).alloc (.cells #[.int .i64 q.place] 3)) _ _ _ _ (by simpa using Below.refl _ _)
  have HQ3 := Lib.hid k1
  have HP3 := Lib.hid k2
  have HB3 := Lib.hid (below_step HB2.out hba)
  have HM3 := Lib.hid (Kd.C_below HM2.out hba)
  have HX3 := Lib.hid (HX.out.later HB3.out)
  have HR3 := Lib.hid (Kd.C_below HR.out HB3.out)
  clear hba HM2 HB2 k1 k2
  generalize (w2.alloc (.cells #[.int .i64 q.step.at_, .int .i64 q.step.do_, .int .i64 q.step.key] 36)).alloc (.cells #[.int .i64 q.place] 3) = w3 at HQ3 HP3 HB3 HM3 HX3 HR3 ⊢
  obtain ⟨⟨g1, g2, g3⟩, hmf, hown⟩ := Hcase.out
  obtain ⟨t1, -, -, t4⟩ := hct g1 g2 g3
  obtain ⟨g, hgl, hok, hple, hplt⟩ := hcl g1 g2 g3
  have h60 : l.length ≤ 60 := (line_of g1).len
  rw [g1] at PB PA PG
  rw [g3] at PG2
  simp only [if_true] at PB PA
  rw [there_end g1] at PA
  have hel : (thereE l l.length).length ≤ 60 := by rw [← there_end g1]; exact Nat.le_trans (at_len l 1000) h60
  obtain ⟨en, hen⟩ : ∃ en, en = thereE l l.length := ⟨_, rfl⟩
  have Hen := Lib.hid hen
  rw [← hen] at PA hel
  obtain ⟨bs, hbs⟩ : ∃ bs, bs = bridgesE l := ⟨_, rfl⟩
  have Hbs := Lib.hid hbs
  rw [← hbs] at PB
  have hbl : bs.length = (bridgesN l).length := by rw [hbs, bridgesE_len]
  have hbp : 0 < bs.length := by rw [hbl]; exact (List.getElem?_eq_some_iff.1 (bridgesN_first l)).1
  have hbm : bs.length ≤ 61 := by rw [hbl]; have := bridgesN_le l; omega
  obtain ⟨bm, hbm1⟩ : ∃ bm, bs.length = bm + 1 := ⟨bs.length - 1, by omega⟩
  have hb0 : bs[0]? = some (0 : Int) := by rw [hbs, bridgesE_N, List.getElem?_map, bridgesN_first]; rfl
  have hbe : bs[bm]? = some (l.length : Int) := by
    have := bridgesN_last l
    rw [← hbl, hbm1, Nat.add_sub_cancel] at this
    rw [hbs, bridgesE_N, List.getElem?_map, this]; rfl
  have hbsort : ∀ i x y, bs[i]? = some x → bs[i + 1]? = some y → x ≤ y := fun i x y hx hy => by
    rw [hbs] at hx hy
    obtain ⟨a, rfl, ha⟩ := bridges_at hx
    obtain ⟨b, rfl, hb⟩ := bridges_at hy
    have := bridgesN_lt (Nat.lt_succ_self i) ha hb
    omega
  have Hb0 := Lib.hid hb0
  have Hbe := Lib.hid hbe
  have Hbsort := Lib.hid hbsort
  have Hbl := Lib.hid hbl
  have hspl : 0 < r.spans.length := by
    cases hsn : r.spans with
    | nil => rw [hsn] at hgl; cases hgl
    | cons _ _ => simp
  obtain ⟨sk, hsk⟩ : ∃ sk, r.spans.length = sk + 1 := ⟨r.spans.length - 1, by omega⟩
  have hgk : r.spans[sk]? = some g := by rw [List.getLast?_eq_getElem?, hsk, Nat.add_sub_cancel] at hgl; exact hgl
  have Hgk := Lib.hid hgk
  obtain ⟨p, hp⟩ : ∃ p, p = q.place := ⟨_, rfl⟩
  rw [← hp] at hok hple hplt HP3
  obtain ⟨own, hown0⟩ : ∃ own : PElem, own = ⟨q.step.key, q.step.at_⟩ := ⟨_, rfl⟩
  rw [← hown0] at hok
  rw [← hown0] at hown
  obtain ⟨mo, hmo⟩ : ∃ mo, mo = r.more := ⟨_, rfl⟩
  rw [← hmo] at hok hmf
  have Hmf := Lib.hid hmf
  clear hmf
  have Hmo := Lib.hid hmo
  clear hmo
  have Hown0 := Lib.hid hown0
  have Hok := Lib.hid hok
  have Hsk := Lib.hid hsk
  have hskn : sk < r.spans.length := by omega
  have hskI : (sk : Int) < (r.spans.length : Int) := by omega
  have hbmn : bm < bs.length := by omega
  have hbmI : (bm : Int) < (bs.length : Int) := by omega
  have hbpI : (0 : Int) < (bs.length : Int) := by omega
  have hz1 : ((r.spans.length : Int) == 0) = false := by simp only [beq_eq_false_iff_ne]; omega
  have hz2 : ((bs.length : Int) == 0) = false := by simp only [beq_eq_false_iff_ne]; omega
  have hz3 : ¬ r.spans = [] := fun e => by rw [e] at hspl; cases hspl
  have hz4 : ¬ bs = [] := fun e => by rw [e] at hbp; cases hbp
  have hwb : IntKind.i64.wrap ((bs.length : Int) - 1) = (bm : Int) := by rw [IntWalk.i64_in _ (by omega)]; omega
  have G1 := Lib.hid g1
  rw [← hp]
  clear hct hcl g1 g3 t4 hgl hok hen hbs hbl hb0 hbe hbsort hgk hown0 hp Hcase hsk hbm1
  go_upto_region 4 with (go_at_call 34; first
    | ((with_reducible refine (PG.out w3 HR3.out).mono ?_); rintro e w4 ⟨rfl, hb4⟩; have HB4 := Lib.hid hb4; clear hb4)
    | ((with_reducible refine (PG2.out Am cm q.line.length w4 rfl (Kd.C_below HM3.out HB4.out)).mono ?_); rintro e w5 ⟨rfl, hb5⟩; have HB5 := Lib.hid (below_step HB4.out hb5); clear hb5))
  go_upto_region 5 with (go_at_call 16; (with_reducible refine (PB.out w5 (Kd.C_below HR3.out HB5.out)).mono ?_); rintro e w6 ⟨⟨v6, rfl, ho6⟩, hb6⟩; have hbp3 := HP3.out.lt; have hs35 := HB5.out.size; obtain ⟨Ab, cb, rfl, hcb, hrb⟩ := own_reads' ho6; have HOb6 := Lib.hid ho6; have HB6 := Lib.hid (below_step HB5.out hb6); have Hbr := Lib.hid hrb; clear ho6 hrb hb6)
  go_upto_region 6 with (go_at_call 29; (with_reducible refine (PA.out w6 (Kd.C_below HR3.out HB6.out)).mono ?_); rintro e w7 ⟨⟨v7, rfl, ho7⟩, hb7⟩; obtain ⟨Ae, ce, rfl, hce, hre⟩ := own_reads' ho7; have HB7 := Lib.hid (below_step HB6.out hb7); have Hbr7 := Lib.hid (Kd.C_below Hbr.out hb7); have Her := Lib.hid hre; have HOe7 := Lib.hid ho7; have Hb67 := Lib.hid hb7; have hs36 := HB6.out.size; have hs67 := hb7.size; clear ho7 hre hb7)
  have HE8 := Lib.hid (Cells.new w7 #[.slice Ae en.length ce] 23)
  have hba := below_alloc (Below.refl w7.heap.size w7) (.cells #[.slice Ae en.length ce] 23)
  have HB8 := Lib.hid (below_step HB7.out hba)
  have Hbr8 := Lib.hid (Kd.C_below Hbr7.out hba)
  have Her8 := Lib.hid (Kd.C_below Her.out hba)
  have Hb78 := Lib.hid hba
  clear hba Hbr Hbr7 Her HB7 HB6
  generalize w7.alloc (.cells #[.slice Ae en.length ce] 23) = w8 at HE8 HB8 Hbr8 Her8 Hb78 ⊢
  have HX8 := Lib.hid (HX3.out.later HB8.out)
  have x0 := HX8.out.cell 0 _ rfl
  have x1 := HX8.out.cell 1 _ rfl
  have x2 := HX8.out.cell 2 _ rfl
  have x3 := HX8.out.cell 3 _ rfl
  go_upto_region 7 with (go_at_call 45; (with_reducible refine (PC.out w8 (Kd.C_below HR3.out HB8.out)).mono ?_); rintro e w9 ⟨⟨vo2, vt2, rfl, ho2, ht2⟩, hb2⟩; rw [t1, ← Hmo.out]; obtain ⟨A2, n2, c2, rfl⟩ := R_slice' ho2; obtain ⟨B2, d2, rfl, hd2, hs2⟩ := own_reads' ht2; have HB9 := Lib.hid (below_step HB8.out hb2); have Hb89 := Lib.hid hb2; have Hbr9 := Lib.hid (Kd.C_below Hbr8.out hb2); have Her9 := Lib.hid (Kd.C_below Her8.out hb2); have HE9 := Lib.hid (HE8.out.later hb2); have HS9 := Lib.hid hs2; clear hb2 hs2 ho2 ht2)
  clear x0 x1 x2 x3 t1
  have HW10 := Lib.hid (Cells.new w9 #[.bool mo, .slice B2 r.spans.length d2] 39)
  have hba := below_alloc (Below.refl w9.heap.size w9) (.cells #[.bool mo, .slice B2 r.spans.length d2] 39)
  have HB10 := Lib.hid (below_step HB9.out hba)
  have Hbr10 := Lib.hid (Kd.C_below Hbr9.out hba)
  have Her10 := Lib.hid (Kd.C_below Her9.out hba)
  have HE10 := Lib.hid (HE9.out.later hba)
  have HS10 := Lib.hid (Kd.C_below HS9.out hba)
  have hb1l := HE9.out.lt
  have HOb10 := Lib.hid (Kd.R_below HOb6.out (below_step (below_step (below_step Hb67.out Hb78.out) Hb89.out) hba))
  have HOe10 := Lib.hid (Kd.R_below HOe7.out (below_step (below_step Hb78.out Hb89.out) hba))
  clear HOb6 HOe7 Hb67 Hb78 Hb89
  clear hba Hbr8 Hbr9 Her8 Her9 HE8 HE9 HS9 HB9 HB8 HX8 HB5 HB4
  generalize w9.alloc (.cells #[.bool mo, .slice B2 r.spans.length d2] 39) = w10 at HW10 HB10 Hbr10 Her10 HE10 HS10 HOb10 HOe10 ⊢
  have HR10 := Lib.hid (Kd.C_below HR3.out HB10.out)
  have HX10 := Lib.hid (HX3.out.later HB10.out)
  have HQ10 := Lib.hid (HQ3.out.later HB10.out)
  have HP10 := Lib.hid (HP3.out.later HB10.out)
  have HBw := Lib.hid (below_step HB.out (below_step HB3.out HB10.out))
  clear HX HX3 HQ3 HP3 HR3 HM3 HB3 HB HR PC PB PA PG PG2 PW
  obtain ⟨y0, ady, -, -, hy0, hAy, f0⟩ := int_at Hbr10.out 0 hbp
  rw [show ady.add 0 = ady by cases ady; simp [Addr.add]] at f0
  obtain rfl : (0 : Int) = y0 := by rw [Hb0.out] at hy0; cases hy0; rfl
  subst hAy
  obtain ⟨y1, ady1, -, -, hy1, hAy, f1⟩ := int_at Hbr10.out bm hbmn
  cases hAy
  obtain rfl : (l.length : Int) = y1 := by rw [Hbe.out] at hy1; cases hy1; rfl
  have F0 := Lib.hid f0
  have F1 := Lib.hid f1
  have w0c := HW10.out.cell 0 _ rfl
  have w1c := HW10.out.cell 1 _ rfl
  clear hy0 hy1
  go_upto_region 9 with (go_at_call 55; (with_reducible refine (lib_issorted (some ady) bs.length cb bs w10 rfl Hbr10.out Hbsort.out).mono ?_); rintro e w11 ⟨rfl, hb11⟩; have HB11 := Lib.hid hb11; have f0 := cell_keep hb11 F0.out; have f1 := cell_keep hb11 F1.out; have w0c := cell_keep hb11 w0c; have w1c := cell_keep hb11 w1c; clear hb11)
  clear f0 f1 F0 F1 hz1 hz2 hz3 hz4
  have hspm : r.spans.length ≤ 9223372036854775807 := HS10.out.2.1
  have hwk : IntKind.i64.wrap ((r.spans.length : Int) - 1) = (sk : Int) := by rw [IntWalk.i64_in _ (by omega)]; have := Hsk.out; omega
  obtain ⟨g', adg, -, -, hg', hAg, g0, g1, g2, g3⟩ := pspan_at (Kd.C_below HS10.out HB11.out) sk hskn
  obtain rfl : g = g' := by rw [Hgk.out] at hg'; cases hg'; rfl
  subst hAg
  clear hg' g0 g1
  go_upto_region 10 with fail
  have HG12 := Lib.hid (Cells.new w11 #[.int .i64 g.elem.key, .int .i64 g.elem.from_] 58)
  have hba := below_alloc (Below.refl w11.heap.size w11) (.cells #[.int .i64 g.elem.key, .int .i64 g.elem.from_] 58)
  have HB12 := Lib.hid (below_step HB11.out hba)
  clear hba g2 g3 hwk w1c hskI hskn
  generalize w11.alloc (.cells #[.int .i64 g.elem.key, .int .i64 g.elem.from_] 58) = w12 at HG12 HB12 ⊢
  have w0c := (HW10.out.later HB12.out).cell 0 _ rfl
  have hsf : ∀ (a : Addr) (fn : Fn) (first cap : Array Value) (m : Mode) (w : World), (store a (.func fn first cap) m).run Try.prog w = stored Try.prog w a (.func fn first cap) m := fun _ _ _ _ _ _ => run_store _ _ _ _ _ rfl
  go_upto_region 11 with fail
  have hs311 : w3.heap.size ≤ w11.heap.size := Nat.le_trans HB10.out.size HB11.out.size
  have hs312 : w3.heap.size ≤ w12.heap.size := Nat.le_trans HB10.out.size HB12.out.size
  have HF13 := Lib.hid (Cells.new w12 #[.func (.func 56) #[] #[.pointer (some ⟨w7.heap.size, 0, none⟩)]] 84)
  have hba := below_alloc (Below.refl w12.heap.size w12) (.cells #[.func (.func 56) #[] #[.pointer (some ⟨w7.heap.size, 0, none⟩)]] 84)
  have HB13 := Lib.hid (below_step HB12.out hba)
  have HG13 := Lib.hid (HG12.out.later hba)
  have hb1n : w7.heap.size < w12.heap.size := by have a := HW10.out.lt; have b := HB12.out.size; omega
  clear hba w0c HG12
  generalize w12.alloc (.cells #[.func (.func 56) #[] #[.pointer (some ⟨w7.heap.size, 0, none⟩)]] 84) = w13 at HF13 HB13 HG13 ⊢
  have HEnd := Lib.hid (show EndAt w13 w7.heap.size w12.heap.size Ae en.length ce en from ⟨HE10.out.later HB13.out, HF13.out, Kd.C_below Her10.out HB13.out, rfl⟩)
  have HX13 := Lib.hid (HX10.out.later HB13.out)
  have HQ13 := Lib.hid (HQ10.out.later HB13.out)
  have HP13 := Lib.hid (HP10.out.later HB13.out)
  have HR13 := Lib.hid (Kd.C_below HR10.out HB13.out)
  have Hbr13 := Lib.hid (Kd.C_below Hbr10.out HB13.out)
  have HOb13 := Lib.hid (Kd.R_below HOb10.out HB13.out)
  have HOe13 := Lib.hid (Kd.R_below HOe10.out HB13.out)
  have hs713 : w7.heap.size < w13.heap.size := (HE10.out.later HB13.out).lt
  have hs1213 : w12.heap.size < w13.heap.size := HF13.out.lt
  have HBw13 := Lib.hid (below_step HBw.out HB13.out)
  have w0c := (HW10.out.later HB13.out).cell 0 _ rfl
  skip
  clear HE10 HF13 Her10 HX10 HQ10 HP10 HR10 Hbr10 HBw HW10 HB12 HB11 HS10 Hgk Hb0 Hbe Hbsort hspl hbp hbmn hbmI hspm hwb HB13
  have hmf := Hmf.out
  have HDn := Lib.hid (Hok.out.down hmf hown)
  have hw7 : w3.heap.size ≤ w7.heap.size := by omega
  subst hmf
  have hq' := HQ13.out
  have q0 := hq'.cell 0 _ rfl
  have q2 := hq'.cell 2 _ rfl
  go_upto_region 24 with (go_at_call 42; (with_reducible refine (law_elem q.step.key q.step.at_ w13).mono ?_); rintro e w14 ⟨rfl, hb14⟩; have HB14 := Lib.hid hb14; clear hb14)
  have HO15 := Lib.hid (Cells.new w14 #[.int .i64 q.step.key, .int .i64 q.step.at_] 58)
  have hba := below_alloc (Below.refl w14.heap.size w14) (.cells #[.int .i64 q.step.key, .int .i64 q.step.at_] 58)
  have HB15 := Lib.hid (below_step HB14.out hba)
  clear hba w0c q0 q2 hq'
  generalize w14.alloc (.cells #[.int .i64 q.step.key, .int .i64 q.step.at_] 58) = w15 at HO15 HB15 ⊢
  have HE15 := Lib.hid (HEnd.out.later HB15.out)
  have x3 := (HX13.out.later HB15.out).cell 3 _ rfl
  have HP15 := Lib.hid (HP13.out.later HB15.out)
  have HG15 := Lib.hid (HG13.out.later HB15.out)
  have HOb15 := Lib.hid (Kd.R_below HOb13.out HB15.out)
  have HOe15 := Lib.hid (Kd.R_below HOe13.out HB15.out)
  have HBw15 := Lib.hid (below_step HBw13.out HB15.out)
  have hs15 : w13.heap.size ≤ w15.heap.size := HB15.out.size
  clear HOb13 HOe13 HP13 HG13 HEnd HX13 HBw13 HQ13 HR13 Hbr13 HOb10 HOe10 HB15 HB14
  cases drop
  · simp only [Bool.false_eq_true, if_false] at HDn
    go_upto_region 28 with fail
    have HBW := Lib.hid (show Below w.heap.size w w15 from HBw15.out)
    have HRW := Lib.hid (Kd.C_below hr0.out HBW.out)
    have HbW := Lib.hid (own_slice9 HOb15.out).2
    have HPk := HP15
    have HEk := HE15
    have HGk := HG15
    have HT := Lib.hid (Cells.new w15 #[.int .i64 (l.length : Int)] 3)
    have hba := below_alloc (Below.refl w15.heap.size w15) (.cells #[.int .i64 (l.length : Int)] 3)
    have HBa := Lib.hid hba
    have Hsa := Lib.hid (show (w15.alloc (.cells #[.int .i64 (l.length : Int)] 3)).heap.size = w15.heap.size + 1 by simp)
    clear hba x3
    go_upto_region 29 with fail
    generalize w15.alloc (.cells #[.int .i64 (l.length : Int)] 3) = wT at HT HBa Hsa ⊢
    go_wp2_with (go_at_call 61; (with_reducible refine (lib_back (some ady) bs.length cb wT).mono ?_); rintro e wK ⟨rfl, rfl⟩)
    have HK := Lib.hid (Cells.new wT #[.slice (some ady) bs.length cb] 27)
    have hba := below_alloc (Below.refl wT.heap.size wT) (.cells #[.slice (some ady) bs.length cb] 27)
    have HTk := Lib.hid (HT.out.later hba)
    have HBk := Lib.hid (below_step HBa.out hba)
    have Hsk2 := Lib.hid (show (wT.alloc (.cells #[.slice (some ady) bs.length cb] 27)).heap.size = wT.heap.size + 1 by simp)
    clear hba HT HBa
    generalize wT.alloc (.cells #[.slice (some ady) bs.length cb] 27) = wK at HK HTk HBk Hsk2 ⊢
    obtain ⟨F, hF1, hF2⟩ := firstF_done (l := l) (a := p) (by omega)
    have HMn := Lib.hid (HDn.out F hF2)
    have HF1 := Lib.hid (show firstF (((p : Nat)) : Int) (backE bs) (l.length : Int) = (F : Int) by rw [Hbs.out]; exact hF1)
    have hFl : F ≤ l.length := hF2.lt
    have hFc : F ≤ c := by omega
    have hFlI : (F : Int) ≤ (l.length : Int) := by omega
    have hFcI : (F : Int) ≤ (c : Int) := by omega
    clear hF1 hF2
    have HPc := Lib.hid ((HPk.out.later HBk.out).cell 0 _ rfl)
    have hbk7 : w2.heap.size + 1 < w15.heap.size := by omega
    have hszk : w15.heap.size ≤ wK.heap.size := HBk.out.size
    refine (wpIn_wide (n := 3)).1 ?_
    refine wp_rangeB (gf := 94) (lb := #[.pointer (some ⟨wT.heap.size, 0, none⟩)]) rfl (enters_of Try.func94 (by kernel_rfl) rfl)
      (back_stops 2 w15.heap.size wT.heap.size (some ady) cb bs w15 wK HbW.out HBk.out rfl (by have := Hsa.out; omega) HK.out) (fun h k => h.trans k) (fun W l o o' h1 h2 h3 h4 => kept_putObj W l o' fun h => by have := h.1; omega) (fun W => KeptIf.refl _ W) (Below.refl _ _)
      (fun pre W => Cells W w15.heap.size #[.int .i64 (firstF (((p : Nat)) : Int) pre (l.length : Int))] 3 ∧ KeptIf (ButB wK.heap.size w15.heap.size) wK W)
      (fun s W W' row h hg hr => ⟨h.1.turned hg (fun r e => (hr r e).2), h.2.trans (KeptIf.of_grown hg fun r e h => by have := (hr r e).1; have := h.1; omega)⟩)
      ⟨HTk.out, KeptIf.refl _ _⟩ ?assign ?body ?done
    case assign =>
      intro L x W K hK
      gi_wp2
      simpa [encB] using hK
    case body =>
      rintro L pre x W hL hlp ⟨h1, h2⟩ hlen
      have t0 := h1.cell 0 _ rfl
      have tf := h1.frozen 0
      have p0 : W.cell? ⟨w2.heap.size + 1, 0, none⟩ = some (.int .i64 ((p : Nat) : Int)) := ((h2.below (n := w15.heap.size) HBk.out.size fun k hk => ⟨by omega, by omega⟩).cell (p := ⟨w2.heap.size + 1, 0, none⟩) hbk7).trans HPc.out
      have H2 := Lib.hid h2
      have Hsn := Lib.hid (firstF_snoc (((p : Nat)) : Int) pre x (l.length : Int))
      by_cases hx : (((p : Nat)) : Int) ≤ x.2
      · have H1 := Lib.hid (h1.set (.int .i64 x.2))
        clear h1 h2
        gi_wp2
        exact ⟨(KeepsOthers.setCell W ⟨w15.heap.size, 0, none⟩ (.int .i64 x.2)).from _, .of_grown (grownBy_setCell' W w15.heap.size _) (fun r e h => by cases e; exact h.2 rfl), by rw [Hsn.out, if_pos hx]; exact H1.out, H2.out.trans (.of_grown (grownBy_setCell' W w15.heap.size _) fun r e h => by cases e; exact h.2 rfl)⟩
      · have H1 := Lib.hid h1
        have Hx := Lib.hid hx
        clear h1 h2
        gi_wp2
        exact ⟨KeepsFrom.refl _ _, KeptIf.refl _ _, by rw [Hsn.out, if_neg (by have := Hx.out; omega)]; exact H1.out, H2.out⟩
    case done =>
      rintro D xs W hD rfl ⟨h1, h2⟩ hKD
      have hbW : Below w15.heap.size w15 W := HBk.out.trans (h2.below HBk.out.size fun k hk => ⟨by omega, by omega⟩)
      rw [HF1.out] at h1
      have HTW := Lib.hid h1
      have HEW := Lib.hid (HEk.out.later hbW)
      have HGW := Lib.hid (HGk.out.later hbW)
      have HRl := Lib.hid (Kd.C_below HRW.out hbW)
      have HBfin := Lib.hid (below_step HBW.out hbW)
      have HBW0 : w.heap.size ≤ D := by have := HBW.out.size; have := HBk.out.size; omega
      have HKD := Lib.hid hKD
      have hcl : (cameE (l.take F)).length ≤ 60 := Nat.le_trans (came_le _) (by rw [List.length_take]; omega)
      clear h1 h2 hbW hKD HPc HPk HEk HGk HK HTk HBk HRW HBW HbW HDn
      go_upto_region 33 with fail
      refine wp_region_flow [.free 0, .calm 1, .free 2, .calm 4, .group [3], .fence 5, .free 6] (Below W.heap.size W) (Below W.heap.size W) (stable_below _ _ (Nat.le_refl _)) (fun _ h => h) (by kernel_rfl) (by kernel_rfl) (below_drew1 (Below.refl _ _)) ?_
      simp only [pickEnts, pickF, List.getElem?_cons_succ, List.getElem?_cons_zero, List.filterMap_cons, List.filterMap_nil, Option.map_some]
      repeat ((first | refine flow_calm (fun K hK => ?_) | refine flow_free (fun K hK => ?_) | refine float_calm (fun K hK => ?_) | refine float_free (fun K hK => ?_)); go_simp; first | (refine hK _ ?_; clear hK K) | (apply Exists.intro; (refine ⟨fun X => ?_, hK _ ?_⟩); (first | (intro hC; rfl) | rfl | (intro hC; have q := HTW.out.later hC.out; have q0 := q.cell 0 _ rfl; have e := HEW.out.later hC.out; have e0 := e.c2.cell 0 _ rfl; go_simp; done) | (intro hC; have q := HTW.out.later hC.out; have q0 := q.cell 0 _ rfl; have e := HEW.out.later hC.out; have e0 := e.c2.cell 0 _ rfl; go_simp; rfl)); clear hK K))
      refine flow_one (fun v X => Own kPElem 58 X W.heap.size v (cameE (l.take F))) (fun _ _ _ h hb => Kd.R_below h hb) ⟨rfl, fun X hX => ?_⟩ (fun v X0 hX0 hV0 => ?_)
      · go_simp
        refine ⟨Below.refl _ _, ?_⟩
        (with_reducible refine (law_came A F c (l.take F) X (by rw [List.length_take]; omega) (by omega) (stepRow_take (Kd.C_below HRl.out hX.out) F hFl)).mono ?_)
        rintro e w' ⟨v, rfl, ho, hb⟩
        exact ⟨v, rfl, hb, Kd.R_lower ho hX.out.size⟩
      clear hX0 hV0
      refine flow_fence rfl (fun X hX K hK => ?_)
      go_simp
      (with_reducible refine (lib_struck1 W.heap.size _ (cameE (l.take F)) w7.heap.size w12.heap.size Ae en.length ce en W X HEW.out rfl hX.out.1 hX.out.2 hcl).mono ?_)
      rintro e w' ⟨v1, rfl, ho1, hb1⟩
      obtain ⟨Ax, cx, rfl, hcx, -⟩ := own_reads' ho1
      have hah : (cameE (l.take F)).filter (fun y => !(!(en.contains y))) = aheadE l F := by rw [Hen.out]; simp [aheadE]
      rw [hah] at ho1 ⊢
      refine hK.out _ _ (fun Z => Below W.heap.size W Z ∧ Own kPElem 58 Z W.heap.size (.slice Ax (aheadE l F).length cx) (aheadE l F)) (fun Z => Below W.heap.size W Z ∧ Own kPElem 58 Z W.heap.size (.slice Ax (aheadE l F).length cx) (aheadE l F)) (fun Z Z' hZ hb => ⟨below_step hZ.1 hb, Kd.R_below hZ.2 hb⟩) (fun _ h => h) ⟨hX.out.1.trans hb1, ho1⟩ ?_
      clear hK K hX ho1 hb1 hah
      repeat ((first | refine flow_calm (fun K hK => ?_) | refine flow_free (fun K hK => ?_) | refine float_calm (fun K hK => ?_) | refine float_free (fun K hK => ?_)); go_simp; first | (refine hK _ ?_; clear hK K) | (apply Exists.intro; (refine ⟨fun X => ?_, hK _ ?_⟩); (first | (intro hC; rfl) | rfl | (intro hC; skip; go_simp; done) | (intro hC; skip; go_simp; rfl)); clear hK K))
      refine flow_nil ?_
      intro Z hZ
      have HBZ := Lib.hid hZ.out.1
      have HRx := Lib.hid (own_slice9 hZ.out.2).2
      clear hZ
      obtain ⟨XS, hXS⟩ : ∃ XS, XS = aheadE l F := ⟨_, rfl⟩
      rw [← hXS] at HRx HMn ⊢
      clear hXS
      have HMa := Lib.hid HMn.out.1
      have HMb := Lib.hid HMn.out.2
      have hxp : 0 < XS.length := List.length_pos_of_mem HMa.out
      have hxpI : (0 : Int) < (XS.length : Int) := by omega
      have hqe : pElemEq ⟨g.elem.key, g.elem.from_⟩ ⟨g.elem.key, g.elem.from_⟩ = true := by simp [pElemEq]
      have HGZ := Lib.hid (HGW.out.later HBZ.out)
      go_upto_region 34 with fail
      refine wp_region_flow [.free 0, .free 1, .free 2, .free 3, .calm 4, .free 5, .calm 6, .free 7, .free 8, .free 9, .calm 10, .free 11, .free 12] (Below Z.heap.size Z) (Below Z.heap.size Z) (stable_below _ _ (Nat.le_refl _)) (fun _ h => h) (by kernel_rfl) (by kernel_rfl) (below_drew1 (Below.refl _ _)) ?_
      simp only [pickEnts, pickF, List.getElem?_cons_succ, List.getElem?_cons_zero, List.filterMap_cons, List.filterMap_nil, Option.map_some]
      repeat ((first | refine flow_calm (fun K hK => ?_) | refine flow_free (fun K hK => ?_) | refine float_calm (fun K hK => ?_) | refine float_free (fun K hK => ?_)); go_simp; first | (refine hK _ ?_; clear hK K) | (apply Exists.intro; (refine ⟨fun X => ?_, hK _ ?_⟩); (first | (intro hC; rfl) | rfl | (intro hC; have g' := HGZ.out.later hC.out; have g0 := g'.cell 0 _ rfl; have g1 := g'.cell 1 _ rfl; go_simp; done) | (intro hC; have g' := HGZ.out.later hC.out; have g0 := g'.cell 0 _ rfl; have g1 := g'.cell 1 _ rfl; go_simp; rfl) | (intro hC; (with_reducible refine (lib_min Ax XS.length cx XS g.elem _ rfl (Kd.C_below HRx.out hC.out) HMa.out HMb.out).mono ?_); rintro e w' ⟨rfl, hb⟩; exact ⟨rfl, hb⟩) | (intro hC; (with_reducible refine (known_true _).mono ?_); rintro e w' ⟨rfl, hb⟩; exact ⟨rfl, hb⟩)); clear hK K))
      refine flow_nil ?_
      intro Y hC
      have HWY := Lib.hid (below_step HBZ.out hC.out)
      clear hC
      go_wp2
      refine leaves_marks (n0 := w.heap.size) (v := .bool true) (fun w' => by rw [results_tmp (t := 4) rfl]; rfl) [D] Y ⟨by simp, fun E hE => by simp at hE; subst hE; exact ⟨by have := HBW0; omega, heap_later HWY.out HKD.out⟩⟩ (Nat.le_trans HBfin.out.size HWY.out.size) ?_
      intro w' hb' hk'
      exact ⟨rfl, (below_step HBfin.out HWY.out).trans hb'⟩
  · simp only [if_true] at HDn
    have hown' := hown rfl
    have hcon : en.contains own = false := by
      have : own ∉ en := by rw [Hen.out]; exact hown'
      simpa using this
    have HGo1 := Lib.hid (show ∀ W, EndAt W w7.heap.size w12.heap.size Ae en.length ce en → Calls Try.prog 56 #[.agg #[.int .i64 q.step.key, .int .i64 q.step.at_], .pointer (some ⟨w7.heap.size, 0, none⟩)] W fun e w' => e = .returned (.bool true) ∧ Below W.heap.size W w' from fun W h => by have := gone1 own w7.heap.size w12.heap.size Ae en.length ce en W h; rw [hcon, Hown0.out] at this; exact this)
    have o0 := HO15.out.cell 0 _ rfl
    have o1 := HO15.out.cell 1 _ rfl
    have fc := HE15.out.c2.cell 0 _ rfl
    obtain ⟨pa, hpa⟩ : ∃ pa, pa = p + 1 := ⟨_, rfl⟩
    rw [← hpa] at HDn
    have hp1 : pa ≤ l.length := by rw [hpa]; exact hplt rfl
    have hwp : IntKind.i64.wrap ((p : Int) + 1) = (pa : Int) := by rw [hpa, IntWalk.i64_in _ (by omega)]; rfl
    clear hpa
    clear hcon hown' hplt hown
    go_upto_region 27 with (go_at_call 56; (with_reducible refine (HGo1.out w15 HE15.out).mono ?_); rintro e w16 ⟨rfl, hb16⟩; have HB16 := Lib.hid hb16; have x3 := cell_keep hb16 x3; clear hb16)
    clear o0 o1 fc
    have HP16 := Lib.hid (HP15.out.later HB16.out)
    have HG16 := Lib.hid (HG15.out.later HB16.out)
    have HE16 := Lib.hid (HE15.out.later HB16.out)
    have HOb16 := Lib.hid (Kd.R_below HOb15.out HB16.out)
    have HOe16 := Lib.hid (Kd.R_below HOe15.out HB16.out)
    have HBw16 := Lib.hid (below_step HBw15.out HB16.out)
    have hs16 : w15.heap.size ≤ w16.heap.size := HB16.out.size
    have pc := HP16.out.cell 0 _ rfl
    have pf := HP16.out.frozen
    have Hadd1 := Lib.hid (show w.heap.size ≤ w2.heap.size + 1 by omega)
    go_upto_region 28 with fail
    have hgr := grownBy_setCell' w16 (w2.heap.size + 1) (.int .i64 (pa : Int))
    have HPW := Lib.hid (HP16.out.set (.int .i64 (pa : Int)))
    have HGW0 := Lib.hid (HG16.out.kept hgr (by simp; omega))
    have hc1 := HE16.out.c1.kept hgr (by simp; omega)
    have hc2 := HE16.out.c2.kept hgr (by simp; omega)
    have hob := R_set_low HOb16.out (p := ⟨w2.heap.size + 1, 0, none⟩) (by simp only; omega) (.int .i64 (pa : Int))
    have hoe := R_set_low HOe16.out (p := ⟨w2.heap.size + 1, 0, none⟩) (by simp only; omega) (.int .i64 (pa : Int))
    have HEW0 := Lib.hid (show EndAt (w16.setCell ⟨w2.heap.size + 1, 0, none⟩ (.int .i64 (pa : Int))) w7.heap.size w12.heap.size Ae en.length ce en from ⟨hc1, hc2, (own_slice9 hoe).2, rfl⟩)
    have HBW := Lib.hid (HBw16.out.setCell (p := ⟨w2.heap.size + 1, 0, none⟩) Hadd1.out (.int .i64 (pa : Int)))
    have HRW := Lib.hid (Kd.C_below hr0.out HBW.out)
    have HbW := Lib.hid (own_slice9 hob).2
    have hszW : (w16.setCell ⟨w2.heap.size + 1, 0, none⟩ (.int .i64 (pa : Int))).heap.size = w16.heap.size := by simp
    clear hgr hc1 hc2 hob hoe pc pf HE16 HE15 HG16 HG15 HP16 HP15 HOb16 HOe16 HOb15 HOe15 HBw16 HBw15 HB16
    generalize w16.setCell ⟨w2.heap.size + 1, 0, none⟩ (.int .i64 (pa : Int)) = w17 at HPW HGW0 HEW0 HBW HRW HbW hszW ⊢
    have hs17 : w15.heap.size ≤ w17.heap.size := by omega
    clear hszW
    have HPk := HPW
    have HEk := HEW0
    have HGk := HGW0
    clear hwp
    have HT := Lib.hid (Cells.new w17 #[.int .i64 (l.length : Int)] 3)
    have hba := below_alloc (Below.refl w17.heap.size w17) (.cells #[.int .i64 (l.length : Int)] 3)
    have HBa := Lib.hid hba
    have Hsa := Lib.hid (show (w17.alloc (.cells #[.int .i64 (l.length : Int)] 3)).heap.size = w17.heap.size + 1 by simp)
    clear hba x3
    go_upto_region 29 with fail
    generalize w17.alloc (.cells #[.int .i64 (l.length : Int)] 3) = wT at HT HBa Hsa ⊢
    go_wp2_with (go_at_call 61; (with_reducible refine (lib_back (some ady) bs.length cb wT).mono ?_); rintro e wK ⟨rfl, rfl⟩)
    have HK := Lib.hid (Cells.new wT #[.slice (some ady) bs.length cb] 27)
    have hba := below_alloc (Below.refl wT.heap.size wT) (.cells #[.slice (some ady) bs.length cb] 27)
    have HTk := Lib.hid (HT.out.later hba)
    have HBk := Lib.hid (below_step HBa.out hba)
    have Hsk2 := Lib.hid (show (wT.alloc (.cells #[.slice (some ady) bs.length cb] 27)).heap.size = wT.heap.size + 1 by simp)
    clear hba HT HBa
    generalize wT.alloc (.cells #[.slice (some ady) bs.length cb] 27) = wK at HK HTk HBk Hsk2 ⊢
    obtain ⟨F, hF1, hF2⟩ := firstF_done (l := l) (a := pa) (by omega)
    have HMn := Lib.hid (HDn.out F hF2)
    have HF1 := Lib.hid (show firstF (((pa : Nat)) : Int) (backE bs) (l.length : Int) = (F : Int) by rw [Hbs.out]; exact hF1)
    have hFl : F ≤ l.length := hF2.lt
    have hFc : F ≤ c := by omega
    have hFlI : (F : Int) ≤ (l.length : Int) := by omega
    have hFcI : (F : Int) ≤ (c : Int) := by omega
    clear hF1 hF2
    have HPc := Lib.hid ((HPk.out.later HBk.out).cell 0 _ rfl)
    have hbk7 : w2.heap.size + 1 < w17.heap.size := by omega
    have hszk : w17.heap.size ≤ wK.heap.size := HBk.out.size
    refine (wpIn_wide (n := 3)).1 ?_
    refine wp_rangeB (gf := 94) (lb := #[.pointer (some ⟨wT.heap.size, 0, none⟩)]) rfl (enters_of Try.func94 (by kernel_rfl) rfl)
      (back_stops 2 w17.heap.size wT.heap.size (some ady) cb bs w17 wK HbW.out HBk.out rfl (by have := Hsa.out; omega) HK.out) (fun h k => h.trans k) (fun W l o o' h1 h2 h3 h4 => kept_putObj W l o' fun h => by have := h.1; omega) (fun W => KeptIf.refl _ W) (Below.refl _ _)
      (fun pre W => Cells W w17.heap.size #[.int .i64 (firstF (((pa : Nat)) : Int) pre (l.length : Int))] 3 ∧ KeptIf (ButB wK.heap.size w17.heap.size) wK W)
      (fun s W W' row h hg hr => ⟨h.1.turned hg (fun r e => (hr r e).2), h.2.trans (KeptIf.of_grown hg fun r e h => by have := (hr r e).1; have := h.1; omega)⟩)
      ⟨HTk.out, KeptIf.refl _ _⟩ ?assign ?body ?done
    case assign =>
      intro L x W K hK
      gi_wp2
      simpa [encB] using hK
    case body =>
      rintro L pre x W hL hlp ⟨h1, h2⟩ hlen
      have t0 := h1.cell 0 _ rfl
      have tf := h1.frozen 0
      have p0 : W.cell? ⟨w2.heap.size + 1, 0, none⟩ = some (.int .i64 ((pa : Nat) : Int)) := ((h2.below (n := w17.heap.size) HBk.out.size fun k hk => ⟨by omega, by omega⟩).cell (p := ⟨w2.heap.size + 1, 0, none⟩) hbk7).trans HPc.out
      have H2 := Lib.hid h2
      have Hsn := Lib.hid (firstF_snoc (((pa : Nat)) : Int) pre x (l.length : Int))
      by_cases hx : (((pa : Nat)) : Int) ≤ x.2
      · have H1 := Lib.hid (h1.set (.int .i64 x.2))
        clear h1 h2
        gi_wp2
        exact ⟨(KeepsOthers.setCell W ⟨w17.heap.size, 0, none⟩ (.int .i64 x.2)).from _, .of_grown (grownBy_setCell' W w17.heap.size _) (fun r e h => by cases e; exact h.2 rfl), by rw [Hsn.out, if_pos hx]; exact H1.out, H2.out.trans (.of_grown (grownBy_setCell' W w17.heap.size _) fun r e h => by cases e; exact h.2 rfl)⟩
      · have H1 := Lib.hid h1
        have Hx := Lib.hid hx
        clear h1 h2
        gi_wp2
        exact ⟨KeepsFrom.refl _ _, KeptIf.refl _ _, by rw [Hsn.out, if_neg (by have := Hx.out; omega)]; exact H1.out, H2.out⟩
    case done =>
      rintro D xs W hD rfl ⟨h1, h2⟩ hKD
      have hbW : Below w17.heap.size w17 W := HBk.out.trans (h2.below HBk.out.size fun k hk => ⟨by omega, by omega⟩)
      rw [HF1.out] at h1
      have HTW := Lib.hid h1
      have HEW := Lib.hid (HEk.out.later hbW)
      have HGW := Lib.hid (HGk.out.later hbW)
      have HRl := Lib.hid (Kd.C_below HRW.out hbW)
      have HBfin := Lib.hid (below_step HBW.out hbW)
      have HBW0 : w.heap.size ≤ D := by have := HBW.out.size; have := HBk.out.size; omega
      have HKD := Lib.hid hKD
      have hcl : (cameE (l.take F)).length ≤ 60 := Nat.le_trans (came_le _) (by rw [List.length_take]; omega)
      clear h1 h2 hbW hKD HPc HPk HEk HGk HK HTk HBk HRW HBW HbW HDn
      go_upto_region 33 with fail
      refine wp_region_flow [.free 0, .calm 1, .free 2, .calm 4, .group [3], .fence 5, .free 6] (Below W.heap.size W) (Below W.heap.size W) (stable_below _ _ (Nat.le_refl _)) (fun _ h => h) (by kernel_rfl) (by kernel_rfl) (below_drew1 (Below.refl _ _)) ?_
      simp only [pickEnts, pickF, List.getElem?_cons_succ, List.getElem?_cons_zero, List.filterMap_cons, List.filterMap_nil, Option.map_some]
      repeat ((first | refine flow_calm (fun K hK => ?_) | refine flow_free (fun K hK => ?_) | refine float_calm (fun K hK => ?_) | refine float_free (fun K hK => ?_)); go_simp; first | (refine hK _ ?_; clear hK K) | (apply Exists.intro; (refine ⟨fun X => ?_, hK _ ?_⟩); (first | (intro hC; rfl) | rfl | (intro hC; have q := HTW.out.later hC.out; have q0 := q.cell 0 _ rfl; have e := HEW.out.later hC.out; have e0 := e.c2.cell 0 _ rfl; go_simp; done) | (intro hC; have q := HTW.out.later hC.out; have q0 := q.cell 0 _ rfl; have e := HEW.out.later hC.out; have e0 := e.c2.cell 0 _ rfl; go_simp; rfl)); clear hK K))
      refine flow_one (fun v X => Own kPElem 58 X W.heap.size v (cameE (l.take F))) (fun _ _ _ h hb => Kd.R_below h hb) ⟨rfl, fun X hX => ?_⟩ (fun v X0 hX0 hV0 => ?_)
      · go_simp
        refine ⟨Below.refl _ _, ?_⟩
        (with_reducible refine (law_came A F c (l.take F) X (by rw [List.length_take]; omega) (by omega) (stepRow_take (Kd.C_below HRl.out hX.out) F hFl)).mono ?_)
        rintro e w' ⟨v, rfl, ho, hb⟩
        exact ⟨v, rfl, hb, Kd.R_lower ho hX.out.size⟩
      clear hX0 hV0
      refine flow_fence rfl (fun X hX K hK => ?_)
      go_simp
      (with_reducible refine (lib_struck1 W.heap.size _ (cameE (l.take F)) w7.heap.size w12.heap.size Ae en.length ce en W X HEW.out rfl hX.out.1 hX.out.2 hcl).mono ?_)
      rintro e w' ⟨v1, rfl, ho1, hb1⟩
      obtain ⟨Ax, cx, rfl, hcx, -⟩ := own_reads' ho1
      have hah : (cameE (l.take F)).filter (fun y => !(!(en.contains y))) = aheadE l F := by rw [Hen.out]; simp [aheadE]
      rw [hah] at ho1 ⊢
      refine hK.out _ _ (fun Z => Below W.heap.size W Z ∧ Own kPElem 58 Z W.heap.size (.slice Ax (aheadE l F).length cx) (aheadE l F)) (fun Z => Below W.heap.size W Z ∧ Own kPElem 58 Z W.heap.size (.slice Ax (aheadE l F).length cx) (aheadE l F)) (fun Z Z' hZ hb => ⟨below_step hZ.1 hb, Kd.R_below hZ.2 hb⟩) (fun _ h => h) ⟨hX.out.1.trans hb1, ho1⟩ ?_
      clear hK K hX ho1 hb1 hah
      repeat ((first | refine flow_calm (fun K hK => ?_) | refine flow_free (fun K hK => ?_) | refine float_calm (fun K hK => ?_) | refine float_free (fun K hK => ?_)); go_simp; first | (refine hK _ ?_; clear hK K) | (apply Exists.intro; (refine ⟨fun X => ?_, hK _ ?_⟩); (first | (intro hC; rfl) | rfl | (intro hC; skip; go_simp; done) | (intro hC; skip; go_simp; rfl)); clear hK K))
      refine flow_nil ?_
      intro Z hZ
      have HBZ := Lib.hid hZ.out.1
      have HRx := Lib.hid (own_slice9 hZ.out.2).2
      clear hZ
      obtain ⟨XS, hXS⟩ : ∃ XS, XS = aheadE l F := ⟨_, rfl⟩
      rw [← hXS] at HRx HMn ⊢
      clear hXS
      have HMa := Lib.hid HMn.out.1
      have HMb := Lib.hid HMn.out.2
      have hxp : 0 < XS.length := List.length_pos_of_mem HMa.out
      have hxpI : (0 : Int) < (XS.length : Int) := by omega
      have hqe : pElemEq ⟨g.elem.key, g.elem.from_⟩ ⟨g.elem.key, g.elem.from_⟩ = true := by simp [pElemEq]
      have HGZ := Lib.hid (HGW.out.later HBZ.out)
      go_upto_region 34 with fail
      refine wp_region_flow [.free 0, .free 1, .free 2, .free 3, .calm 4, .free 5, .calm 6, .free 7, .free 8, .free 9, .calm 10, .free 11, .free 12] (Below Z.heap.size Z) (Below Z.heap.size Z) (stable_below _ _ (Nat.le_refl _)) (fun _ h => h) (by kernel_rfl) (by kernel_rfl) (below_drew1 (Below.refl _ _)) ?_
      simp only [pickEnts, pickF, List.getElem?_cons_succ, List.getElem?_cons_zero, List.filterMap_cons, List.filterMap_nil, Option.map_some]
      repeat ((first | refine flow_calm (fun K hK => ?_) | refine flow_free (fun K hK => ?_) | refine float_calm (fun K hK => ?_) | refine float_free (fun K hK => ?_)); go_simp; first | (refine hK _ ?_; clear hK K) | (apply Exists.intro; (refine ⟨fun X => ?_, hK _ ?_⟩); (first | (intro hC; rfl) | rfl | (intro hC; have g' := HGZ.out.later hC.out; have g0 := g'.cell 0 _ rfl; have g1 := g'.cell 1 _ rfl; go_simp; done) | (intro hC; have g' := HGZ.out.later hC.out; have g0 := g'.cell 0 _ rfl; have g1 := g'.cell 1 _ rfl; go_simp; rfl) | (intro hC; (with_reducible refine (lib_min Ax XS.length cx XS g.elem _ rfl (Kd.C_below HRx.out hC.out) HMa.out HMb.out).mono ?_); rintro e w' ⟨rfl, hb⟩; exact ⟨rfl, hb⟩) | (intro hC; (with_reducible refine (known_true _).mono ?_); rintro e w' ⟨rfl, hb⟩; exact ⟨rfl, hb⟩)); clear hK K))
      refine flow_nil ?_
      intro Y hC
      have HWY := Lib.hid (below_step HBZ.out hC.out)
      clear hC
      go_wp2
      refine leaves_marks (n0 := w.heap.size) (v := .bool true) (fun w' => by rw [results_tmp (t := 4) rfl]; rfl) [D] Y ⟨by simp, fun E hE => by simp at hE; subst hE; exact ⟨by have := HBW0; omega, heap_later HWY.out HKD.out⟩⟩ (Nat.le_trans HBfin.out.size HWY.out.size) ?_
      intro w' hb' hk'
      exact ⟨rfl, (below_step HBfin.out HWY.out).trans hb'⟩
theorem law_bridged (l : List PStep) (A : Option Addr) (c : Nat) (s : PStep) (drop : Bool) (w : World) (hr : PStepRow w A l.length l) (hc : l.length ≤ c) (hs : l.length * 24 ≤ 140737488351232) :
    Calls Try.prog 13 #[.slice A l.length c, .agg #[.int .i64 s.at_, .int .i64 s.do_, .int .i64 s.key, .bool drop]] w fun e w' => e = .returned (.bool true) ∧ Below w.heap.size w w' := by
  obtain ⟨q, hq⟩ : ∃ q, q = wantE l s drop := ⟨_, rfl⟩
  obtain ⟨r, hre⟩ : ∃ r, r = changedE l s drop := ⟨_, rfl⟩
  by_cases g1 : lineB l = true
  · by_cases g2 : q.can = true
    · by_cases g3 : lineB q.line = true
      · cases hm : r.more with
        | true => exact brid_a l A c s drop q r hq hre w hr hc hs (.inr (.inr (.inr ⟨⟨g1, g2, g3⟩, .inl hm⟩)))
        | false =>
          by_cases hd : drop = true ∧ (⟨q.step.key, q.step.at_⟩ : PElem) ∈ thereE l l.length
          · exact brid_a l A c s drop q r hq hre w hr hc hs (.inr (.inr (.inr ⟨⟨g1, g2, g3⟩, .inr ⟨hm, hd⟩⟩)))
          · exact brid_b l A c s drop q r hq hre w hr hc hs ⟨⟨g1, g2, g3⟩, hm, fun h1 h2 => hd ⟨h1, h2⟩⟩
      · exact brid_a l A c s drop q r hq hre w hr hc hs (.inr (.inr (.inl ⟨g1, g2, by simpa using g3⟩)))
    · exact brid_a l A c s drop q r hq hre w hr hc hs (.inr (.inl ⟨g1, by simpa using g2⟩))
  · exact brid_a l A c s drop q r hq hre w hr hc hs (.inl (by simpa using g1))
end Go.Proofs.Ytemkloildadokaa
namespace Go.Proofs.Ytemkloildadokaa.PiqueBridged
open Go.ChangeShapes Go.WideShapes Go.ChangeAt Go.RowKit
open Go.ChangeMaps (open_string shut_string)
theorem own : ownKnob Try.prog.godebug = none := by kernel_rfl
theorem laidOut : laidOutB Try.prog = true := by kernel_rfl
set_option maxRecDepth 100000 in
theorem lifted (os : Os) (started : os.Started) (H : Type) (enc : TypeId × Value → H) :
    ReturnsInHanded {} Try.checked os 13 .any (Rows.piqueBridgedSpec.pre6 enc Try.prog Try.f13 Rows.piqueBridgedRow.domain false) (Rows.piqueBridgedSpec.post enc Try.prog Try.f13 false true false false) := by
  refine returnsInHanded_of_change_sized (C := Try.checked) own started (by kernel_rfl) Try.func13
    (ChangeSpec.witness6 (enc := enc) (C := Try.checked) false ⟨#[], #[.slice none 0 0, .agg #[.int .i64 0, .int .i64 0, .int .i64 0, .bool false]], []⟩ 8 (by kernel_rfl) (by kernel_rfl) (by kernel_rfl) (by kernel_rfl)) ?_
  intro W base args ds gs before hval0 hW hcnd hsz0 _
  have hsz : (DataW.weightsEach Try.prog (Try.f13.params.toList ++ Rows.piqueBridgedSpec.plain.varTypes Try.prog) (ds ++ gs)).all (· ≤ reachBytes) = true := hsz0
  have hval : ∀ (j : Nat) t v, Try.f13.params[j]? = some t → args[j]? = some v → Value.okWide Try.prog W .any base t v := hval0
  have hW' := hW
  obtain ⟨p, q, hA0, hV, rfl, hfz, hnd⟩ := hW
  have hA : DataW.TrodAll enc Try.prog W 0 (fun _ => true) true Try.f13.params.toList args.toList ds p := hA0
  rw [Try.params13] at hA hval hsz
  obtain ⟨v0, vs0, d0, ds0, p0, q0, hargs, rfl, rfl, h0, r0⟩ := trodAll_cons hA
  obtain ⟨v1, vs1, d1, ds1, p1, q1, rfl, rfl, rfl, h1, r1⟩ := trodAll_cons r0
  obtain ⟨rfl, rfl, rfl⟩ := trodAll_nil r1
  obtain rfl : args = #[v0, v1] := by cases args; simp_all
  obtain ⟨rfl, rfl⟩ := trodVars_none hV
  obtain ⟨a0, len0, cap0, rfl⟩ := okWide_slice Try.underlying22 (hval 0 22 v0 rfl rfl)
  have k0 := h0
  have lt0 : ∀ x ∈ p0, x.block < W.heap.size := by obtain ⟨m, hm⟩ := k0; exact DataW.trod_lt m _ _ _ hm
  have y0 := sized_psteps hsz (j := 0) rfl rfl h0
  have w0 : len0 ≤ cap0 ∧ ∃ l, l.length = len0 ∧ PStepRow W a0 l.length l := by
    obtain ⟨fuel, hf⟩ := h0
    obtain ⟨A, len, cap, l, hcs, hlc, hl, hr⟩ := open_psteprow hf
    simp [Value.cells] at hcs
    obtain ⟨rfl, rfl, rfl⟩ := hcs
    exact ⟨hlc, l, hl, hr⟩
  obtain ⟨hc0, l0, rfl, hr0⟩ := w0
  have k1 := h1
  have lt1 : ∀ x ∈ p1, x.block < W.heap.size := by obtain ⟨m, hm⟩ := k1; exact DataW.trod_lt m _ _ _ hm
  obtain ⟨n1, b1, rfl⟩ := open_changeval (hval 1 66 v1 rfl rfl) h1
  clear hA0 hval0 hsz0 hsz
  refine (law_bridged l0 a0 cap0 n1 b1 W hr0 hc0 y0).mono fun e W' ⟨he, bel⟩ => ?_
  subst he
  exact ⟨_, rfl, _, _, _, [], _, [], hW', trodAll_mk1 (shut_bool Try.underlying4 _), (trodAll_cons_mk (Below.trod laidOut (by kernel_rfl) (of_decide_eq_true (by kernel_rfl)) k0 bel lt0) (trodAll_cons_mk (Below.trod laidOut (by kernel_rfl) (of_decide_eq_true (by kernel_rfl)) k1 bel lt1) trodAll_mk0)), rfl, bel.frame _, fun h => by cases h⟩
theorem over : Rows.piqueBridgedRow.holds Try.pinned (OpenSpec.ofChange Rows.piqueBridgedSpec) :=
  OpenClaim.holds_of_wide 13 Try.f13 rfl rfl rfl rfl rfl rfl rfl ⟨rfl, rfl, rfl, rfl, rfl⟩ rfl rfl rfl rfl rfl (by kernel_rfl) Try.func13 (by kernel_rfl)
    (of_decide_eq_true (by kernel_rfl)) (by unfold Func.isWrapper; first | (rw [if_pos (by decide +kernel)]; kernel_rfl) | (rw [if_neg (by decide +kernel)]; exact ⟨rfl, rfl⟩))
    (fun os started H enc _ => lifted os started H enc)
end Go.Proofs.Ytemkloildadokaa.PiqueBridged
namespace Go.Proofs.Ytemkloildadokaa
/-- The row. -/
theorem PiqueBridged_holds : Rows.PiqueBridgedSaid := PiqueBridged.over
#print axioms PiqueBridged_holds
end Go.Proofs.Ytemkloildadokaa
