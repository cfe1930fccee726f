/-
  Texts of one hand, laid together: LawPiqueTaken.
-/
import Derived.Test.YtemkloildadokaaZD
import Derived.Test.YtemkloildadokaaZO
import Derived.Test.YtemkloildadokaaZB
import Derived.Test.YtemkloildadokaaZC
import Derived.Test.YtemkloildadokaaZE
import Derived.Test.YtemkloildadokaaZT
import Derived.Test.YtemkloildadokaaRows
import Derived.ProofKit
import Derived.OpenShut
import Derived.ShutString
import Derived.ChangeOld
import Derived.SizedLaws
set_option linter.unusedVariables false
set_option linter.unusedSimpArgs false
/-! For every line, all that came is taken once, or is there at the end; what is taken came earlier and is the least one; and the chapter's examples are as they are stated. -/
namespace Go.Proofs.Ytemkloildadokaa
open Go.RowKit Go.Shelf Go.Proofs.YtemkloildadokaaW.PrintWords
theorem pairs_elt {l : List PElem} (h : l.Pairwise fun a b => ltOf ordE b a = false) : l.Pairwise fun a b => eltB b a = false := h.imp fun {a b} h => by rw [ltOf_ord] at h; exact h
set_option maxRecDepth 100000 in
set_option maxHeartbeats 16000000 in
theorem law_taken (l : List PStep) (A : Option Addr) (c : Nat) (w : World) (hr : PStepRow w A l.length l) (hc : l.length ≤ c) (hs : l.length * 24 ≤ 140737488351232) :
    Calls Try.prog 12 #[.slice A l.length c] w fun e w' => e = .returned (.bool true) ∧ Below w.heap.size w w' := by
  have HR := Lib.hid hr
  clear hr
  have P1 := Lib.hid (fun W (h : PStepRow W A l.length l) => p_Takes A c l W h)
  have P2 := Lib.hid (fun W t (h : PStepRow W A l.length l) => p_At A c l t W h hc)
  have P3 := Lib.hid (fun W (h : PStepRow W A l.length l) => r_Good A l.length c l W rfl h)
  cases hl : lineB l with
  | false =>
    rw [hl] at P1 P2 P3
    simp only [Bool.false_eq_true, if_false] at P1 P2
    clear hl
    obtain ⟨E, hE⟩ : ∃ E : List PElem, E = [] := ⟨_, rfl⟩
    rw [← hE] at P1 P2
    clear hE
    go_enter Try.func12, Try.ntmps12
    go_wp2_with (first
      | (go_at_call 14; (with_reducible refine (P1.out w HR.out).mono ?_); rintro e w2 ⟨⟨v2, rfl, ho2⟩, hb2⟩; have HB2 := Lib.hid hb2; clear hb2 ho2)
      | (go_at_call 29; (with_reducible refine (P2.out w2 1000 (Kd.C_below HR.out HB2.out)).mono ?_); rintro e w3 ⟨⟨v3, rfl, ho3⟩, hb3⟩; have HB3 := Lib.hid (below_step HB2.out hb3); clear hb3 ho3)
      | (go_at_call 34; (with_reducible refine (P3.out w3 (Kd.C_below HR.out HB3.out)).mono ?_); rintro e w4 ⟨rfl, hb4⟩; have HB4 := Lib.hid (below_step HB3.out hb4); clear hb4)
      | (go_at_call 20; (with_reducible refine (known_true _).mono ?_); rintro e w9 ⟨rfl, hb9⟩))
    go_ret
    exact ⟨rfl, below_step HB4.out hb9⟩
  | true =>
    rw [hl] at P1 P2 P3
    simp only [if_true] at P1 P2
    have HL := Lib.hid hl
    have h60 : l.length ≤ 60 := (line_of hl).len
    obtain ⟨T, hT⟩ : ∃ T, T = takesE l := ⟨_, rfl⟩
    obtain ⟨E, hE⟩ : ∃ E, E = atE l 1000 := ⟨_, rfl⟩
    obtain ⟨C, hC⟩ : ∃ C, C = cameE l := ⟨_, rfl⟩
    have hperm := taken_all hl
    have hnd := came_nodup (line_of hl).inc
    have hes := end_sorted hl
    have hcl := came_le l
    rw [← hT] at P1
    rw [← hE] at hes
    rw [← hT, ← hE, ← hC] at hperm
    rw [← hC] at hnd hcl
    have hlen := hperm.length_eq
    rw [List.length_append] at hlen
    have PE := Lib.hid (fun W (h : PStepRow W A l.length l) => P2.out W 1000 h)
    have PC := Lib.hid (fun W (h : PStepRow W A l.length l) => law_came A l.length c l W rfl h60 h)
    rw [← hE] at PE
    rw [← hC] at PC
    have Hperm := Lib.hid hperm
    have Hnd := Lib.hid hnd
    have Hes := Lib.hid hes
    have HT := Lib.hid hT
    have hwl : IntKind.i64.wrap ((T.length : Int) + (E.length : Int)) = (C.length : Int) := by rw [IntWalk.i64_in _ (by omega)]; omega
    have Hlen := Lib.hid hlen
    have hc60 : C.length ≤ 60 := by omega
    have ht60 : T.length ≤ 60 := by omega
    have he60 : E.length ≤ 60 := by omega
    clear hl hT hE hC hperm hnd hes hlen hcl
    go_enter Try.func12, Try.ntmps12
    go_upto_region 8 with (first
      | (go_at_call 14; (with_reducible refine (P1.out w HR.out).mono ?_); rintro e w2 ⟨⟨v2, rfl, ho2⟩, hb2⟩; obtain ⟨A2, c2, rfl, hc2, hr2⟩ := own_reads' ho2; have HB2 := Lib.hid hb2; have HR2 := Lib.hid hr2; clear hb2 ho2 hr2)
      | (go_at_call 29; (with_reducible refine (PE.out w2 (Kd.C_below HR.out HB2.out)).mono ?_); rintro e w3 ⟨⟨v3, rfl, ho3⟩, hb3⟩; obtain ⟨A3, c3, rfl, hc3, hr3⟩ := own_reads' ho3; have HB3 := Lib.hid (below_step HB2.out hb3); have HR3 := Lib.hid hr3; have HR23 := Lib.hid (Kd.C_below HR2.out hb3); clear hb3 ho3 hr3)
      | (go_at_call 34; (with_reducible refine (P3.out w3 (Kd.C_below HR.out HB3.out)).mono ?_); rintro e w4 ⟨rfl, hb4⟩; have HB4 := Lib.hid (below_step HB3.out hb4); have HR24 := Lib.hid (Kd.C_below HR23.out hb4); have HR34 := Lib.hid (Kd.C_below HR3.out hb4); clear hb4)
      | (go_at_call 50; (with_reducible refine (PC.out w4 (Kd.C_below HR.out HB4.out)).mono ?_); rintro e w5 ⟨v5, rfl, ho5, hb5⟩; obtain ⟨A5, c5, rfl, hc5, hr5⟩ := own_reads' ho5; have HO5 := Lib.hid ho5; have HB5 := Lib.hid (below_step HB4.out hb5); have HB45 := Lib.hid hb5; have HR25 := Lib.hid (Kd.C_below HR24.out hb5); have HR35 := Lib.hid (Kd.C_below HR34.out hb5); have HG5 := Lib.hid hb5.size; clear hb5 ho5 hr5))
    have hk6 := Cells.new w5 #[.slice A2 T.length c2, .slice A3 E.length c3] 23
    have q0 := hk6.cell 0 _ rfl
    have q1 := hk6.cell 1 _ rfl
    have hb6 := below_alloc (Below.refl w5.heap.size w5) (.cells #[.slice A2 T.length c2, .slice A3 E.length c3] 23)
    have HB6 := Lib.hid (below_step HB5.out hb6)
    have HB46 := Lib.hid (below_step HB45.out hb6)
    have HO6 := Lib.hid (Kd.R_below HO5.out hb6)
    have HR26 := Lib.hid (Kd.C_below HR25.out hb6)
    have HR36 := Lib.hid (Kd.C_below HR35.out hb6)
    have HG6 := Lib.hid (Nat.le_trans HG5.out hb6.size)
    have Hcat := Lib.hid (lib_Concat T E A2 A3 c2 c3 w5.heap.size (w5.alloc (.cells #[.slice A2 T.length c2, .slice A3 E.length c3] 23)) q0 q1 HR26.out HR36.out (by omega) (by omega))
    clear hk6 hb6 q0 q1 HO5 HR25 HR35 HG5
    go_upto_region 9 with (go_at_call 51; (with_reducible refine Hcat.out.mono ?_); rintro e w7 ⟨v7, rfl, ho7, hb7⟩; have HO7 := Lib.hid ho7; have HB7 := Lib.hid (below_step HB6.out hb7); have HB7' := Lib.hid hb7; have HC7 := Lib.hid (Kd.R_below HO6.out hb7); have HR27 := Lib.hid (Kd.C_below HR26.out hb7); have HR37 := Lib.hid (Kd.C_below HR36.out hb7); have HG7 := Lib.hid (Nat.le_trans HG6.out hb7.size); have HG67 := Lib.hid hb7.size; clear hb7 ho7)
    clear Hcat
    generalize w5.alloc (.cells #[.slice A2 T.length c2, .slice A3 E.length c3] 23) = w6 at HB6 HB46 HB7' HO6 HR26 HR36 HG6 HO7 HG67 ⊢
    -- the sorts turn their own rows alone
    go_upto_region 10 with (go_at_call 52; (with_reducible refine (sort_law (T ++ E) v7 w7 w6.heap.size HO7.out HG67.out (by rw [List.length_append]; omega)).mono ?_); rintro e w8 ⟨rfl, S1, hp1, hs1, ho8, hg8⟩; have HO8 := Lib.hid ho8; have HG8 := Lib.hid hg8; have HP1 := Lib.hid hp1; have HS1 := Lib.hid hs1; clear hg8 ho8 hp1 hs1)
    have hv7 : ∀ k, v7.ownBlock = some k → w6.heap.size ≤ k := fun k hk => by obtain ⟨_, hq⟩ := Kd.R_own HO8.out; exact own_base hq k hk
    have hv5 : ∀ k, (Value.slice A5 C.length c5).ownBlock = some k → k < w6.heap.size := fun k hk => by obtain ⟨_, hq⟩ := Kd.R_own HO6.out; exact own_lt hq k hk
    have hb8 : Below w6.heap.size w6 w8 := Below.grown (HB7'.out) HG8.out HG67.out hv7
    have HB8 := Lib.hid (below_step HB6.out hb8)
    have HB86 := Lib.hid hb8
    have HC8 := Lib.hid (Kd.R_below HO6.out hb8)
    have HR28 := Lib.hid (Kd.C_below HR26.out hb8)
    have HR38 := Lib.hid (Kd.C_below HR36.out hb8)
    have HG48 := Lib.hid (Nat.le_trans HG6.out hb8.size)
    clear hb8 HC7 HR27 HR37 HG7
    go_upto_region 11 with (go_at_call 52; (with_reducible refine (sort_law C (.slice A5 C.length c5) w8 w4.heap.size HC8.out HG48.out (by omega)).mono ?_); rintro e w9 ⟨rfl, S2, hp2, hs2, ho9, hg9⟩; have HO9 := Lib.hid ho9; have HG9 := Lib.hid hg9; have HP2 := Lib.hid hp2; have HS2 := Lib.hid hs2; clear hg9 ho9 hp2 hs2)
    have hbase5 : ∀ k, (Value.slice A5 C.length c5).ownBlock = some k → w4.heap.size ≤ k := fun k hk => by obtain ⟨_, hq⟩ := Kd.R_own HO9.out; exact own_base hq k hk
    have HB9 := Lib.hid (show Below w4.heap.size w8 w9 from Below.grown (Below.refl _ _) HG9.out HG48.out hbase5)
    have HB49 := Lib.hid (show Below w.heap.size w w9 from HB8.out.trans (HB9.out.mono HB4.out.size))
    have HV9 := Lib.hid (show Own kPElem 58 w9 w6.heap.size v7 S1 from Kd.R_mono (Kd.R_grown (Kd.R_bound HO8.out) HG9.out fun k hk e => by have := hv5 k e.symm; have := hk.2.1; omega) fun _ _ => trivial)
    have HR29 := Lib.hid (show ElemRow w9 A2 T.length T from Kd.C_below HR24.out ((HB46.out.trans (HB86.out.mono HG6.out)).trans HB9.out))
    have HR39 := Lib.hid (show ElemRow w9 A3 E.length E from Kd.C_below HR34.out ((HB46.out.trans (HB86.out.mono HG6.out)).trans HB9.out))
    have HEq := Lib.hid (show S1 = S2 from sorted_same ((HP1.out.trans Hperm.out).trans HP2.out.symm) (HP2.out.nodup_iff.2 Hnd.out) (pairs_elt HS1.out) (pairs_elt HS2.out))
    obtain ⟨A7, c7, rfl, hc7, hr7⟩ := own_reads' HV9.out
    obtain ⟨A5', c5', he5, hc5', hr5⟩ := own_reads' HO9.out
    injection he5 with e1 e2 e3
    subst e1 e3
    have HR7 := Lib.hid hr7
    have HR5 := Lib.hid hr5
    have hl2 := HP2.out.length_eq
    rw [← hl2]
    clear hr7 hr5 hc7 hc5' hv7 hv5 hbase5 hl2 e2
    have heq := HEq.out
    subst heq
    go_upto_region 13 with (first
      | (go_at_call 41; (with_reducible refine (equal_elems S1 S1 A7 A5 c7 c5 w9 HR7.out HR5.out).mono ?_); rintro e w10 ⟨he4, hb10⟩; have he5 : e = .returned (.bool true) := (by rw [he4]; simp); subst he5; have HB10 := Lib.hid hb10; clear he4 hb10)
      | (go_at_call 54; (with_reducible refine (lib_sorted A3 E.length c3 E w10 rfl (Kd.C_below HR39.out HB10.out) Hes.out).mono ?_); rintro e w11 ⟨rfl, hb11⟩; have HB11 := Lib.hid (below_step HB10.out hb11); clear hb11))
    have HW := Lib.hid (below_step HB49.out HB11.out)
    have HT11 := Lib.hid (Kd.C_below HR29.out HB11.out)
    clear HR28 HR38 HR29 HR39 HR7 HR5 HO7 HO8 HO9 HC8 HV9 HG8 HG9 HP1 HP2 HS1 HS2 HEq HB10 HB11 HB9 HB8 HB49 HG48 HG67 HB7 HB7' HO6 HR26 HR36 HG6 HB6 HB5 HR24 HR34 HB4 HB3 HB2 HR2 HR3 HR23 Hperm Hnd Hes Hlen PC PE P1 P3
    generalize hw11 : w11 = w2' at HW HT11 ⊢
    clear hw11 w11
    rename_i w11
    generalize hw11 : w2' = w2 at HW HT11 ⊢
    clear hw11
    go_wp2
    go_loopw [65, 9] (fun i k wr => ∃ i' : Nat, i' ≤ l.length ∧ i = .int .i64 i' ∧ k = .int .i64 (outsN l i') ∧ Below w2.heap.size w2 wr) (fun i _ _ => l.length - (intOf i).toNat)
    case atStart => exact ⟨0, Nat.zero_le _, rfl, rfl, Below.refl _ _⟩
    case round =>
      obtain ⟨i, hi, rfl, rfl, hB⟩ := hrel
      have HBr := Lib.hid hB
      clear hB
      by_cases hlt : i < l.length
      · obtain ⟨s, ad, hd, htk, hget, rfl, e0, e1, e2⟩ := pstep_at (Kd.C_below HR.out (HW.out.trans (HBr.out.mono HW.out.size))) i hlt
        have Hget := Lib.hid hget
        clear hd htk hget
        go_upto_region 17 with fail
        have HS := Lib.hid (Cells.new wr #[.int .i64 s.at_, .int .i64 s.do_, .int .i64 s.key] 36)
        have hba := below_alloc (Below.refl wr.heap.size wr) (.cells #[.int .i64 s.at_, .int .i64 s.do_, .int .i64 s.key] 36)
        have HB5 := Lib.hid (below_step HBr.out hba)
        clear hba e0 e1 e2
        generalize wr.alloc (.cells #[.int .i64 s.at_, .int .i64 s.do_, .int .i64 s.key] 36) = w5 at HS HB5 ⊢
        have s0 := HS.out.cell 0 _ rfl
        have s1 := HS.out.cell 1 _ rfl
        cases hdo : (s.do_ == 2)
        · have Hsu := Lib.hid (outs_idle HL.out Hget.out (by simpa using hdo))
          go_wp2
          exact ⟨⟨i + 1, by omega, by go_num, by rw [Hsu.out], HB5.out⟩, by simp [intOf]; omega⟩
        · obtain ⟨y, hy, hsu, hfr, hle⟩ := taken_step HL.out Hget.out (by simpa using hdo)
          rw [← HT.out] at hy
          obtain ⟨D, hD⟩ : ∃ D, D = atE l s.at_ := ⟨_, rfl⟩
          have PD := Lib.hid (fun W (h : PStepRow W (some ad) l.length l) => P2.out W s.at_ h)
          rw [← hD] at hle PD
          have hkT : outsN l i < T.length := (List.getElem?_eq_some_iff.1 hy).1
          obtain ⟨k, hk⟩ : ∃ k, k = outsN l i := ⟨_, rfl⟩
          have Hk := Lib.hid hk
          rw [← hk] at hy hsu hkT ⊢
          have Hsu := Lib.hid hsu
          have hkI : ¬ (T.length : Int) ≤ (k : Int) := by omega
          have hkI' : (k : Int) < (T.length : Int) := by omega
          have hfrI : ¬ s.at_ ≤ y.from_ := by omega
          have hwk : IntKind.i64.wrap ((k : Int) + 1) = ((k + 1 : Nat) : Int) := by rw [IntWalk.i64_in _ (by omega)]; rfl
          have hkT2 : k < T.length := hkT
          clear hk hsu hD
          go_upto_region 19 with (go_at_call 29; (with_reducible refine (PD.out w5 (Kd.C_below HR.out (HW.out.trans (HB5.out.mono HW.out.size)))).mono ?_); rintro e w6 ⟨⟨v6, rfl, ho6⟩, hb6⟩; obtain ⟨A6, c6, rfl, hc6, hr6⟩ := own_reads' ho6; have HB6 := Lib.hid (below_step HB5.out hb6); have HS6 := Lib.hid (HS.out.later hb6); have HR6 := Lib.hid hr6; clear hb6 ho6 hr6)
          obtain ⟨x, adt, -, -, hx, hA2, f0, f1⟩ := pelem_at (Kd.C_below HT11.out HB6.out) k hkT2
          obtain rfl : x = y := by rw [hy] at hx; cases hx; rfl
          subst hA2
          have F0 := Lib.hid f0
          have F1 := Lib.hid f1
          have hm : i + 1 ≤ l.length := hlt
          clear hx hy f0 f1 s0 s1
          cases D with
          | nil =>
            clear hle
            refine wp_region_flow [.free 0, .free 1, .free 2, .free 3, .free 4, .free 5, .free 6, .free 7, .free 8, .free 9, .free 10, .free 11, .free 12, .calm 13, .free 14, .calm 15, .free 16, .free 17, .free 18, .free 19, .free 20, .free 21, .free 22, .free 23, .free 24, .free 25, .free 26, .free 27, .free 28, .free 29, .free 30, .free 31, .free 32, .free 33] (Below w6.heap.size w6) (Below w6.heap.size w6) (stable_below _ _ (Nat.le_refl _)) (fun _ h => h) (by kernel_rfl) (by kernel_rfl) (below_drew1 (Below.refl _ _)) ?_
            simp only [pickEnts, pickF, List.getElem?_cons_succ, List.getElem?_cons_zero, List.filterMap_cons, List.filterMap_nil, Option.map_some]
            repeat ((first | refine flow_calm (fun K hK => ?_) | refine flow_free (fun K hK => ?_) | refine float_calm (fun K hK => ?_) | refine float_free (fun K hK => ?_)); go_simp; first | (refine hK _ ?_; clear hK K) | (apply Exists.intro; (refine ⟨fun X => ?_, hK _ ?_⟩); (first | (intro hC; rfl) | rfl | (intro hC; have f0 := cell_keep hC.out F0.out; have f1 := cell_keep hC.out F1.out; have q := HS6.out.later hC.out; have q0 := q.cell 0 _ rfl; go_simp; done) | (intro hC; have f0 := cell_keep hC.out F0.out; have f1 := cell_keep hC.out F1.out; have q := HS6.out.later hC.out; have q0 := q.cell 0 _ rfl; go_simp; rfl)); clear hK K))
            refine flow_nil ?_
            intro Y hC
            have HY := Lib.hid (HB6.out.trans (hC.out.mono HB6.out.size))
            clear hC
            go_wp2
            exact ⟨⟨i + 1, hm, by go_num, by rw [Hsu.out]; go_num, HY.out⟩, by simp [intOf]; omega⟩
          | cons z D =>
            have Hyz := Lib.hid (hle z (by simp))
            obtain ⟨z', adz, -, -, hz, hA6, g0, g1⟩ := pelem_at HR6.out 0 (by simp)
            obtain rfl : z = z' := by simpa using hz
            subst hA6
            rw [show adz.add (0 * 2) = adz by cases adz; simp [Addr.add]] at g0 g1
            have G0 := Lib.hid g0
            have G1 := Lib.hid g1
            have hpos : (0 : Int) < ((z :: D).length : Int) := by rw [List.length_cons]; omega
            have hpos' : 0 < (z :: D).length := by simp
            obtain ⟨dl, hdl⟩ : ∃ dl, dl = (z :: D).length := ⟨_, rfl⟩
            rw [← hdl] at hpos hpos' ⊢
            clear hle hz g0 g1 hdl
            refine wp_region_flow [.free 0, .free 1, .free 2, .free 3, .free 4, .free 5, .free 6, .free 7, .free 8, .free 9, .free 10, .free 11, .free 12, .calm 13, .free 14, .calm 15, .free 16, .free 17, .free 18, .free 19, .free 20, .free 21, .free 22, .free 23, .free 24, .free 25, .calm 26, .free 27, .free 28, .calm 29, .calm 30, .free 31, .free 32, .free 33] (Below w6.heap.size w6) (Below w6.heap.size w6) (stable_below _ _ (Nat.le_refl _)) (fun _ h => h) (by kernel_rfl) (by kernel_rfl) (below_drew1 (Below.refl _ _)) ?_
            simp only [pickEnts, pickF, List.getElem?_cons_succ, List.getElem?_cons_zero, List.filterMap_cons, List.filterMap_nil, Option.map_some]
            repeat ((first | refine flow_calm (fun K hK => ?_) | refine flow_free (fun K hK => ?_) | refine float_calm (fun K hK => ?_) | refine float_free (fun K hK => ?_)); go_simp; first | (refine hK _ ?_; clear hK K) | (apply Exists.intro; (refine ⟨fun X => ?_, hK _ ?_⟩); (first | (intro hC; rfl) | rfl | (intro hC; have f0 := cell_keep hC.out F0.out; have f1 := cell_keep hC.out F1.out; have g0 := cell_keep hC.out G0.out; have g1 := cell_keep hC.out G1.out; have q := HS6.out.later hC.out; have q0 := q.cell 0 _ rfl; go_simp; done) | (intro hC; have f0 := cell_keep hC.out F0.out; have f1 := cell_keep hC.out F1.out; have g0 := cell_keep hC.out G0.out; have g1 := cell_keep hC.out G1.out; have q := HS6.out.later hC.out; have q0 := q.cell 0 _ rfl; go_simp; rfl) | (intro hC; (with_reducible refine (r_Less x z _).mono ?_); rintro e w' ⟨he, hb⟩; rw [Hyz.out] at he; exact ⟨he, hb⟩)); clear hK K))
            refine flow_nil ?_
            intro Y hC
            have HY := Lib.hid (HB6.out.trans (hC.out.mono HB6.out.size))
            clear hC
            go_wp2
            exact ⟨⟨i + 1, hm, by go_num, by rw [Hsu.out]; go_num, HY.out⟩, by simp [intOf]; omega⟩
      · go_wp2_with (go_at_call 20; (with_reducible refine (known_true _).mono ?_); rintro e w12 ⟨rfl, hb12⟩)
        go_ret
        exact ⟨rfl, below_step (HW.out.trans (HBr.out.mono HW.out.size)) hb12⟩
end Go.Proofs.Ytemkloildadokaa
namespace Go.Proofs.Ytemkloildadokaa.PiqueTaken
open Go.ChangeShapes Go.WideShapes Go.ChangeAt Go.RowKit
open Go.ChangeMaps (open_string shut_string)
theorem own : ownKnob Try.prog.godebug = none := by kernel_rfl
theorem laidOut : laidOutB Try.prog = true := by kernel_rfl
set_option maxRecDepth 100000 in
theorem lifted (os : Os) (started : os.Started) (H : Type) (enc : TypeId × Value → H) :
    ReturnsInHanded {} Try.checked os 12 .any (Rows.piqueTakenSpec.pre6 enc Try.prog Try.f12 Rows.piqueTakenRow.domain false) (Rows.piqueTakenSpec.post enc Try.prog Try.f12 false true false false) := by
  refine returnsInHanded_of_change_sized (C := Try.checked) own started (by kernel_rfl) Try.func12
    (ChangeSpec.witness6 (enc := enc) (C := Try.checked) false ⟨#[], #[.slice none 0 0], []⟩ 8 (by kernel_rfl) (by kernel_rfl) (by kernel_rfl) (by kernel_rfl)) ?_
  intro W base args ds gs before hval0 hW hcnd hsz0 _
  have hsz : (DataW.weightsEach Try.prog (Try.f12.params.toList ++ Rows.piqueTakenSpec.plain.varTypes Try.prog) (ds ++ gs)).all (· ≤ reachBytes) = true := hsz0
  have hval : ∀ (j : Nat) t v, Try.f12.params[j]? = some t → args[j]? = some v → Value.okWide Try.prog W .any base t v := hval0
  have hW' := hW
  obtain ⟨p, q, hA0, hV, rfl, hfz, hnd⟩ := hW
  have hA : DataW.TrodAll enc Try.prog W 0 (fun _ => true) true Try.f12.params.toList args.toList ds p := hA0
  rw [Try.params12] at hA hval hsz
  obtain ⟨v0, vs0, d0, ds0, p0, q0, hargs, rfl, rfl, h0, r0⟩ := trodAll_cons hA
  obtain ⟨rfl, rfl, rfl⟩ := trodAll_nil r0
  obtain rfl : args = #[v0] := by cases args; simp_all
  obtain ⟨rfl, rfl⟩ := trodVars_none hV
  obtain ⟨a0, len0, cap0, rfl⟩ := okWide_slice Try.underlying22 (hval 0 22 v0 rfl rfl)
  have k0 := h0
  have lt0 : ∀ x ∈ p0, x.block < W.heap.size := by obtain ⟨m, hm⟩ := k0; exact DataW.trod_lt m _ _ _ hm
  have y0 := sized_psteps hsz (j := 0) rfl rfl h0
  have w0 : len0 ≤ cap0 ∧ ∃ l, l.length = len0 ∧ PStepRow W a0 l.length l := by
    obtain ⟨fuel, hf⟩ := h0
    obtain ⟨A, len, cap, l, hcs, hlc, hl, hr⟩ := open_psteprow hf
    simp [Value.cells] at hcs
    obtain ⟨rfl, rfl, rfl⟩ := hcs
    exact ⟨hlc, l, hl, hr⟩
  obtain ⟨hc0, l0, rfl, hr0⟩ := w0
  clear hA0 hval0 hsz0 hsz
  refine (law_taken l0 a0 cap0 W hr0 hc0 y0).mono fun e W' ⟨he, bel⟩ => ?_
  subst he
  exact ⟨_, rfl, _, _, _, [], _, [], hW', trodAll_mk1 (shut_bool Try.underlying4 _), (trodAll_cons_mk (Below.trod laidOut (by kernel_rfl) (of_decide_eq_true (by kernel_rfl)) k0 bel lt0) trodAll_mk0), rfl, bel.frame _, fun h => by cases h⟩
theorem over : Rows.piqueTakenRow.holds Try.pinned (OpenSpec.ofChange Rows.piqueTakenSpec) :=
  OpenClaim.holds_of_wide 12 Try.f12 rfl rfl rfl rfl rfl rfl rfl ⟨rfl, rfl, rfl, rfl, rfl⟩ rfl rfl rfl rfl rfl (by kernel_rfl) Try.func12 (by kernel_rfl)
    (of_decide_eq_true (by kernel_rfl)) (by unfold Func.isWrapper; first | (rw [if_pos (by decide +kernel)]; kernel_rfl) | (rw [if_neg (by decide +kernel)]; exact ⟨rfl, rfl⟩))
    (fun os started H enc _ => lifted os started H enc)
end Go.Proofs.Ytemkloildadokaa.PiqueTaken
namespace Go.Proofs.Ytemkloildadokaa
/-- The row. -/
theorem PiqueTaken_holds : Rows.PiqueTakenSaid := PiqueTaken.over
#print axioms PiqueTaken_holds
end Go.Proofs.Ytemkloildadokaa
