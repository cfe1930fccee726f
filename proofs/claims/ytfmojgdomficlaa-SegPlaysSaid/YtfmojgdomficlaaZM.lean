/-
  Texts of one hand, laid together: RefD, RefE.
-/
import Derived.Test.YtfmojgdomficlaaZL
set_option linter.unusedVariables false
set_option linter.unusedSimpArgs false
/-! The reference: shaped. -/
namespace Go.Proofs.Ytfmojgdomficlaa
open Go.RowKit Go.Shelf Go.Proofs.YtfmojgdomficlaaW.PrintWords

/-- The files, as the reference looks at them: their sizes come last. -/
def okR (last opn : Int) (f : SFile) : Bool := decide (last < f.no) && (decide (f.no ≤ 9999) && (decide (0 ≤ f.safe) && (decide (f.safe ≤ f.recs.length) && (decide ((f.recs.length : Int) ≤ f.safe) || f.no == opn))))
def filesR (last opn : Int) : List SFile → Bool
  | [] => true
  | f :: l => okR last opn f && filesR f.no opn l
def sizeR (l : List SFile) : Nat := (l.map fun f => f.recs.length).sum
theorem filesFrom_R (opn : Int) : ∀ (l : List SFile) (last many : Int), 0 ≤ many → many ≤ 120 → filesFrom last opn many l = (filesR last opn l && decide (many + (sizeR l : Nat) ≤ 120))
  | [], last, many, _, h1 => by simp [filesFrom, filesR, sizeR, h1]
  | f :: l, last, many, h0, h1 => by
    have hs : (sizeR (f :: l) : Int) = f.recs.length + sizeR l := by simp [sizeR]
    by_cases hb : many + f.recs.length ≤ 120
    · have ih := filesFrom_R opn l f.no (many + f.recs.length) (by omega) hb
      rw [filesFrom_cons, ih, filesR, okR, hs, decide_eq_true hb, show many + (f.recs.length : Int) + (sizeR l : Int) = many + ((f.recs.length : Int) + (sizeR l : Int)) by omega]
      cases decide (last < f.no) <;> cases decide (f.no ≤ 9999) <;> cases decide (0 ≤ f.safe) <;> cases decide (f.safe ≤ (f.recs.length : Int)) <;> cases (decide ((f.recs.length : Int) ≤ f.safe) || f.no == opn) <;> simp
    · rw [filesFrom_cons, decide_eq_false hb, filesR, hs, decide_eq_false (show ¬ many + ((f.recs.length : Int) + (sizeR l : Int)) ≤ 120 by omega)]
      simp
theorem shaped_R (d : SDisk) : shapedB d = (listB d && (filesR 0 (openNo d) d.files && decide ((sizeR d.files : Int) ≤ 120))) := by
  rw [shapedB, filesFrom_R _ _ _ _ (by omega) (by omega), Int.zero_add]
theorem sizeR_take (l : List SFile) (k : Nat) (f : SFile) (h : l[k]? = some f) : sizeR (l.take (k + 1)) = sizeR (l.take k) + f.recs.length := by
  obtain ⟨hk, rfl⟩ := List.getElem?_eq_some_iff.1 h
  rw [sizeR, List.take_succ_eq_append_getElem hk, List.map_append, List.sum_append]
  simp [sizeR]

set_option maxRecDepth 100000 in
set_option maxHeartbeats 16000000 in
theorem ref_shaped (d : SDisk) (Af Al : Option Addr) (cf cl : Nat) (w : World) (hd : DRows w Af cf Al cl d) (hF : ∀ f ∈ d.files, f.recs.length ≤ 2199023255552) :
    Calls Try.prog 51 #[.agg #[.slice Af d.files.length cf, .slice Al d.list.length cl]] w fun e w' => e = .returned (.bool (shapedB d)) ∧ Below w.heap.size w w' := by
  have hcl := hd.capl
  have hcf := hd.capf
  have hm : d.list.length ≤ 9223372036854775807 := hd.list.2.1
  have hmf : d.files.length ≤ 9223372036854775807 := hd.files.2.1
  have Hd := Lib.hid hd
  clear hd
  by_cases he : d.list = []
  · have hl0 : d.list.length = 0 := by rw [he]; rfl
    have hlb : shapedB d = false := by simp [shapedB, listB, he]
    clear he
    go_enter Try.func51, Try.ntmps51
    go_wp2
    go_ret
    exact ⟨by rw [hlb]; rfl, (by repeat (first | exact Below.refl _ _ | assumption | apply below_alloc | apply below_drew1 | apply pw_below_drewN | refine below_step ?_ (by assumption)))⟩
  by_cases h8 : d.list.length ≤ 8
  · have hpos : 0 < d.list.length := List.length_pos_iff.2 he
    have hz : decide ((d.list.length : Int) < 1) = false := by simp; omega
    have h8b : decide ((8 : Int) < d.list.length) = false := by simp; omega
    have hlb : listB d = listedFrom d.files [] d.list := by
      have h1 : d.list.isEmpty = false := by simpa using he
      simp [listB, h1, h8]
    have Hlb := Lib.hid hlb
    have Hne := Lib.hid he
    have Hsh := Lib.hid (shaped_R d)
    clear hlb he
    go_enter Try.func51, Try.ntmps51
    go_upto_region 3 with fail
    have HC := Lib.hid (Cells.new w #[.slice Af d.files.length cf, .slice Al d.list.length cl] 33)
    have HB := Lib.hid (below_alloc (Below.refl w.heap.size w) (.cells #[.slice Af d.files.length cf, .slice Al d.list.length cl] 33))
    generalize w.alloc (.cells #[.slice Af d.files.length cf, .slice Al d.list.length cl] 33) = w1 at HC HB ⊢
    have q1 := HC.out.cell 1 _ rfl
    go_wp2
    clear q1
    go_loopw [23] (fun i wr => ∃ k : Nat, k ≤ d.list.length ∧ i = .int .i64 k ∧ Below w1.heap.size w1 wr ∧ Hid (listedFrom d.files [] d.list = listedFrom d.files (d.list.take k) (d.list.drop k))) (fun i _ => d.list.length - (intOf i).toNat)
    case atStart => exact ⟨0, Nat.zero_le _, rfl, Below.refl _ _, Lib.hid rfl⟩
    case round =>
      obtain ⟨k, hk, rfl, hB, Hp⟩ := hrel
      by_cases hlt : k < d.list.length
      · obtain ⟨no, ad, hd, htk, hget, rfl, e0⟩ := int_at (Kd.C_below Hd.out.list (below_step HB.out hB)) k hlt
        have hst := Lib.hid (show listedFrom d.files (d.list.take k) (d.list.drop k) = ((placeI no d.files 0).isSome && (!(d.list.take k).contains no && listedFrom d.files (d.list.take (k + 1)) (d.list.drop (k + 1)))) by rw [hd, htk]; rfl)
        have hpn := placeOf_neg d.files no
        have hkc : k ≤ cl := by omega
        have q0 := (HC.out.later hB).cell 0 _ rfl
        have q1 := (HC.out.later hB).cell 1 _ rfl
        clear hd htk hget
        cases hpi : (placeI no d.files 0).isSome
        · rw [hpi] at hpn
          go_wp2_with (first | (go_at_call 60; (with_reducible refine (ref_file d _ _ cf cl no _ (Hd.out.later (below_step HB.out hB))).mono ?_); rintro e w' ⟨rfl, hb⟩))
          go_ret
          exact ⟨by rw [Hsh.out, Hlb.out, Hp.out, hst.out, hpi]; rfl, below_step HB.out (below_step hB hb)⟩
        · rw [hpi] at hpn
          have hpn' : ¬ (placeOf d.files no < 0) := by simpa using hpn
          go_wp2_with (first | (go_at_call 60; (with_reducible refine (ref_file d _ _ cf cl no _ (Hd.out.later (below_step HB.out hB))).mono ?_); rintro e w2 ⟨rfl, hb⟩; have hB2 := below_step hB hb; have c1 := (HC.out.later hB2).cell 1 _ rfl))
          clear e0 hB q0 q1
          go_loopw [37] (fun i wr => ∃ j : Nat, j ≤ k ∧ i = .int .i64 j ∧ Below w2.heap.size w2 wr ∧ Hid ((d.list.take j).contains no = false)) (fun i _ => k - (intOf i).toNat)
          case atStart => exact ⟨0, Nat.zero_le _, rfl, Below.refl _ _, Lib.hid rfl⟩
          case round =>
            obtain ⟨j, hj, rfl, hB3, Hq⟩ := hrel
            by_cases hjk : j < k
            · obtain ⟨x, ad', hd, htk, hget, e', e0⟩ := int_at (Kd.C_below Hd.out.list (below_step HB.out (below_step hB2 hB3))) j (by omega)
              cases e'
              have Hg := Lib.hid hget
              have Htk := Lib.hid htk
              clear hd htk hget
              by_cases hno : x = no
              · go_wp2
                go_ret
                have hmem : (d.list.take k).contains no = true := by
                  rw [List.contains_iff_mem, ← hno]
                  exact List.mem_iff_getElem?.2 ⟨j, by rw [List.getElem?_take_of_lt hjk]; exact Hg.out⟩
                exact ⟨by rw [Hsh.out, Hlb.out, Hp.out, hst.out, hpi, hmem]; rfl, below_step HB.out (below_step hB2 hB3)⟩
              · go_wp2
                exact ⟨⟨j + 1, by omega, by go_num, hB3, Lib.hid (by
                  have h1 := Hq.out
                  rw [Htk.out]
                  simp only [List.contains_eq_mem, List.mem_append, decide_eq_false_iff_not, List.mem_singleton] at h1 ⊢
                  rintro (h | h)
                  · exact h1 h
                  · exact hno h.symm)⟩, by simp [intOf]; omega⟩
            · have hjk' : j = k := by omega
              have h1 := Hq.out
              rw [hjk'] at h1
              have H1 := Lib.hid h1
              clear h1 hjk'
              go_wp2
              exact ⟨⟨k + 1, by omega, by go_num, below_step hB2 hB3, Lib.hid (by rw [Hp.out, hst.out, hpi, H1.out]; rfl)⟩, by simp [intOf]; omega⟩
      · have hkl : k = d.list.length := by omega
        have h1 : listedFrom d.files [] d.list = true := by rw [Hp.out, hkl, List.drop_of_length_le (Nat.le_refl _)]; rfl
        have Hl := Lib.hid (Hlb.out.trans h1)
        have q0 := (HC.out.later hB).cell 0 _ rfl
        have HB1 := Lib.hid hB
        clear h1 hkl Hp Hlb
        go_upto_block 4 with fail
        clear q0
        have hwx : wr = wr := rfl
        generalize hopn : openNo d = opn at Hsh
        have Hopn := Lib.hid hopn
        clear hopn hwx hB hk hlt
        have HCr := Lib.hid (HC.out.later HB1.out)
        have HBr := Lib.hid (below_step HB.out HB1.out)
        clear HC HB HB1
        go_wp2
        go_loopw [7, 49] (fun a i wx => ∃ (k : Nat) (last : Int), k ≤ d.files.length ∧ i = .int .i64 k ∧ a = .int .i64 ((sizeR (d.files.take k) : Nat) : Int) ∧ Below wr.heap.size wr wx ∧ (k = 0 → last = 0) ∧ (0 < k → ∃ g, d.files[k - 1]? = some g ∧ last = g.no) ∧ (k : Int) ≤ last ∧ last ≤ 9999 ∧ sizeR (d.files.take k) ≤ k * 2199023255552 ∧ Hid (filesR 0 opn d.files = filesR last opn (d.files.drop k))) (fun _ i _ => d.files.length - (intOf i).toNat)
        case atStart => exact ⟨0, 0, Nat.zero_le _, rfl, rfl, Below.refl _ _, fun _ => rfl, fun h => absurd h (by omega), by omega, by omega, by simp [sizeR], Lib.hid rfl⟩
        case round =>
          obtain ⟨k, last, hk, rfl, rfl, hB, hz0, hz1, hkl, hl9, hsz, Hp⟩ := hrel
          by_cases hlt : k < d.files.length
          · obtain ⟨f, ad, Ar, cr, hd1, htk, hget, rfl, e0, e1, e2, hcr, hrr⟩ := sfile_at (Kd.C_below Hd.out.files (below_step HBr.out hB)) k hlt
            have hst := Lib.hid (show filesR 0 opn d.files = (okR last opn f && filesR f.no opn (d.files.drop (k + 1))) by rw [Hp.out, hd1]; rfl)
            have hlen : f.recs.length ≤ 2199023255552 := hF f (List.mem_of_getElem? hget)
            have hsz1 := sizeR_take d.files k f hget
            have Hget := Lib.hid hget
            clear hd1 htk hget hrr Hp
            generalize hS : sizeR (d.files.take k) = S at hsz hsz1 ⊢
            have hwS : IntKind.i64.wrap ((S : Int) + (f.recs.length : Int)) = ((S + f.recs.length : Nat) : Int) := by rw [IntWalk.i64_in _ (by omega)]; omega
            clear hS
            go_upto_region 19 with fail
            have HC2 := Lib.hid (Cells.new wr #[.int .i64 f.no, .slice Ar f.recs.length cr, .int .i64 f.safe] 62)
            have HB2 := Lib.hid (below_step hB (below_alloc (Below.refl wr.heap.size wr) (.cells #[.int .i64 f.no, .slice Ar f.recs.length cr, .int .i64 f.safe] 62)))
            generalize wr.alloc (.cells #[.int .i64 f.no, .slice Ar f.recs.length cr, .int .i64 f.safe] 62) = w2 at HC2 HB2 ⊢
            clear e0 e1 e2 hB hF h8 hpos hz h8b hcr
            have HwS := Lib.hid hwS
            clear hwS
            by_cases hk0 : k = 0
            · have hla : last = 0 := hz0 hk0
              have hkz : decide (0 < (k : Int)) = false := by simp; omega
              have hkn : decide (0 < k) = false := by simp; omega
              have Hk0 := Lib.hid hk0
              clear hz0 hz1 hk0
              have hways : ((decide (f.no < 1) = true ∧ okR last opn f = false) ∨ (decide (f.no < 1) = false ∧ decide (9999 < f.no) = true ∧ okR last opn f = false) ∨ (decide (f.no < 1) = false ∧ decide (9999 < f.no) = false ∧ decide (f.safe < 0) = true ∧ okR last opn f = false) ∨ (decide (f.no < 1) = false ∧ decide (9999 < f.no) = false ∧ decide (f.safe < 0) = false ∧ decide ((f.recs.length : Int) < f.safe) = true ∧ okR last opn f = false) ∨ (decide (f.no < 1) = false ∧ decide (9999 < f.no) = false ∧ decide (f.safe < 0) = false ∧ decide ((f.recs.length : Int) < f.safe) = false ∧ (f.no != opn) = true ∧ decide (f.safe < (f.recs.length : Int)) = true ∧ okR last opn f = false)) ∨ ((decide (f.no < 1) = false ∧ decide (9999 < f.no) = false ∧ decide (f.safe < 0) = false ∧ decide ((f.recs.length : Int) < f.safe) = false ∧ (f.no != opn) = false ∧ okR last opn f = true) ∨ (decide (f.no < 1) = false ∧ decide (9999 < f.no) = false ∧ decide (f.safe < 0) = false ∧ decide ((f.recs.length : Int) < f.safe) = false ∧ (f.no != opn) = true ∧ decide (f.safe < (f.recs.length : Int)) = false ∧ okR last opn f = true)) := by
                unfold okR
                rw [show decide (last < f.no) = !decide (f.no < 1) by rw [← decide_not]; exact decide_eq_decide.2 (by omega), show decide (f.no ≤ 9999) = !decide (9999 < f.no) by rw [← decide_not]; exact decide_eq_decide.2 (by omega), show decide (0 ≤ f.safe) = !decide (f.safe < 0) by rw [← decide_not]; exact decide_eq_decide.2 (by omega), show decide (f.safe ≤ (f.recs.length : Int)) = !decide ((f.recs.length : Int) < f.safe) by rw [← decide_not]; exact decide_eq_decide.2 (by omega), show decide ((f.recs.length : Int) ≤ f.safe) = !decide (f.safe < (f.recs.length : Int)) by rw [← decide_not]; exact decide_eq_decide.2 (by omega), show (f.no == opn) = !(f.no != opn) by rw [bne, Bool.not_not]]
                generalize decide (f.no < 1) = b1
                generalize decide (9999 < f.no) = b2
                generalize decide (f.safe < 0) = b4
                generalize decide ((f.recs.length : Int) < f.safe) = b5
                generalize (f.no != opn) = b6
                generalize decide (f.safe < (f.recs.length : Int)) = b7
                cases b1 <;> cases b2 <;> cases b4 <;> cases b5 <;> cases b6 <;> cases b7 <;> simp
              rcases hways with hways | hways
              · rcases hways with ⟨g0, hw⟩ | ⟨g0, g1, hw⟩ | ⟨g0, g1, g2, hw⟩ | ⟨g0, g1, g2, g3, hw⟩ | ⟨g0, g1, g2, g3, g4, g5, hw⟩
                all_goals
                  refine wp_region_flow [.free 0, .calm 1, .free 2, .free 3, .free 4, .calm 5, .free 6, .free 7, .free 8, .free 9, .free 10, .free 11, .free 12, .calm 13, .free 14, .free 15, .free 16, .free 17, .calm 18, .free 19, .calm 20, .free 21, .free 22, .free 23, .free 24, .free 25, .calm 26, .free 27, .free 28, .free 29, .free 30, .calm 31, .free 32, .calm 33, .free 34, .free 35, .free 36, .free 37, .free 38, .calm 39, .calm 40, .calm 41, .free 42, .free 43, .free 44, .calm 45, .free 46, .calm 47, .free 48, .free 49, .free 50, .free 51] (Below w2.heap.size w2) (Below w2.heap.size w2) (stable_below _ _ (Nat.le_refl _)) (fun _ h => h) (by kernel_rfl) (by kernel_rfl) (below_drew1 (Below.refl _ _)) ?_
                  simp only [pickEnts, pickF, List.getElem?_cons_succ, List.getElem?_cons_zero, List.filterMap_cons, List.filterMap_nil, Option.map_some]
                  repeat ((first | refine flow_calm (fun K hK => ?_) | refine flow_free (fun K hK => ?_) | refine float_calm (fun K hK => ?_) | refine float_free (fun K hK => ?_)); go_simp; first | (refine hK _ ?_; clear hK K) | (apply Exists.intro; (refine ⟨fun X => ?_, hK _ ?_⟩); (first | (intro hC; rfl) | rfl | (intro hC; have q := HC2.out.later hC.out; have q0 := q.cell 0 _ rfl; have q1 := q.cell 1 _ rfl; have q2 := q.cell 2 _ rfl; have dq := HCr.out.later (below_step HB2.out hC.out); have d0 := dq.cell 0 _ rfl; have d1 := dq.cell 1 _ rfl; go_simp; done) | (intro hC; have q := HC2.out.later hC.out; have q0 := q.cell 0 _ rfl; have q1 := q.cell 1 _ rfl; have q2 := q.cell 2 _ rfl; have dq := HCr.out.later (below_step HB2.out hC.out); have d0 := dq.cell 0 _ rfl; have d1 := dq.cell 1 _ rfl; go_simp; rfl) | (intro hC; (with_reducible refine (ref_open d _ _ cf cl _ Hne.out (Hd.out.later (below_step HBr.out (below_step HB2.out hC.out)))).mono ?_); rintro e w' ⟨rfl, hb⟩; rw [Hopn.out]; exact ⟨rfl, hb⟩)); clear hK K))
                  refine flow_nil ?_
                  intro X hX
                  have hbX := below_step HB2.out hX.out
                  clear hX
                  go_wp2
                  go_ret
                  exact ⟨by rw [Hsh.out, Hl.out, hst.out, hw]; rfl, below_step HBr.out hbX⟩
              · rcases hways with ⟨g0, g1, g2, g3, g4, hw⟩ | ⟨g0, g1, g2, g3, g4, g5, hw⟩
                all_goals
                  refine wp_region_flow [.free 0, .calm 1, .free 2, .free 3, .free 4, .calm 5, .free 6, .free 7, .free 8, .free 9, .free 10, .free 11, .free 12, .calm 13, .free 14, .free 15, .free 16, .free 17, .calm 18, .free 19, .calm 20, .free 21, .free 22, .free 23, .free 24, .free 25, .calm 26, .free 27, .free 28, .free 29, .free 30, .calm 31, .free 32, .calm 33, .free 34, .free 35, .free 36, .free 37, .free 38, .calm 39, .calm 40, .calm 41, .free 42, .free 43, .free 44, .calm 45, .free 46, .calm 47, .free 48, .free 49, .free 50, .free 51] (Below w2.heap.size w2) (Below w2.heap.size w2) (stable_below _ _ (Nat.le_refl _)) (fun _ h => h) (by kernel_rfl) (by kernel_rfl) (below_drew1 (Below.refl _ _)) ?_
                  simp only [pickEnts, pickF, List.getElem?_cons_succ, List.getElem?_cons_zero, List.filterMap_cons, List.filterMap_nil, Option.map_some]
                  repeat ((first | refine flow_calm (fun K hK => ?_) | refine flow_free (fun K hK => ?_) | refine float_calm (fun K hK => ?_) | refine float_free (fun K hK => ?_)); go_simp; first | (refine hK _ ?_; clear hK K) | (apply Exists.intro; (refine ⟨fun X => ?_, hK _ ?_⟩); (first | (intro hC; rfl) | rfl | (intro hC; have q := HC2.out.later hC.out; have q0 := q.cell 0 _ rfl; have q1 := q.cell 1 _ rfl; have q2 := q.cell 2 _ rfl; have dq := HCr.out.later (below_step HB2.out hC.out); have d0 := dq.cell 0 _ rfl; have d1 := dq.cell 1 _ rfl; go_simp; done) | (intro hC; have q := HC2.out.later hC.out; have q0 := q.cell 0 _ rfl; have q1 := q.cell 1 _ rfl; have q2 := q.cell 2 _ rfl; have dq := HCr.out.later (below_step HB2.out hC.out); have d0 := dq.cell 0 _ rfl; have d1 := dq.cell 1 _ rfl; go_simp; rfl) | (intro hC; (with_reducible refine (ref_open d _ _ cf cl _ Hne.out (Hd.out.later (below_step HBr.out (below_step HB2.out hC.out)))).mono ?_); rintro e w' ⟨rfl, hb⟩; rw [Hopn.out]; exact ⟨rfl, hb⟩)); clear hK K))
                  refine flow_nil ?_
                  intro X hX
                  have hbX := below_step HB2.out hX.out
                  have x1 := (HC2.out.later hX.out).cell 1 _ rfl
                  clear hX
                  have hno : k + 1 ≤ f.no ∧ f.no ≤ 9999 := by
                    have hh := hw
                    simp only [okR, Bool.and_eq_true, decide_eq_true_eq] at hh
                    omega
                  have hwS := HwS.out
                  go_wp2
                  exact ⟨⟨k + 1, f.no, by omega, by go_num, by rw [hsz1, Int.natCast_add], hbX, fun h => absurd h (by omega), fun _ => ⟨f, Hget.out, rfl⟩, hno.1, hno.2, by omega, Lib.hid (by rw [hst.out, hw]; rfl)⟩, by simp [intOf]; omega⟩
            · obtain ⟨g, hgl, hgn⟩ := hz1 (by omega)
              obtain ⟨m, hmk⟩ : ∃ m, k = m + 1 := ⟨k - 1, by omega⟩
              have hml : m < d.files.length := by omega
              have hkz : decide (0 < (k : Int)) = true := by simp; omega
              have hkn : decide (0 < k) = true := by simp; omega
              have hwr : IntKind.i64.wrap ((k : Int) - 1) = (m : Int) := by rw [IntWalk.i64_in _ (by omega)]; omega
              obtain ⟨g', ad', _, _, -, -, hg2, e', p0, -, -, -, -⟩ := sfile_at (Kd.C_below Hd.out.files HBr.out) m hml
              cases e'
              rw [show k - 1 = m by omega, hg2] at hgl
              obtain rfl := Option.some.inj hgl
              rw [← hgn] at p0
              have HP0 := Lib.hid p0
              have Hwr := Lib.hid hwr
              have Hmk := Lib.hid hmk
              have Hk0 := Lib.hid hk0
              clear hz0 hz1 hg2 hgl p0 hwr hgn hmk hk0
              have hways : ((decide (f.no < 1) = true ∧ okR last opn f = false) ∨ (decide (f.no < 1) = false ∧ decide (9999 < f.no) = true ∧ okR last opn f = false) ∨ (decide (f.no < 1) = false ∧ decide (9999 < f.no) = false ∧ decide (f.no ≤ last) = true ∧ okR last opn f = false) ∨ (decide (f.no < 1) = false ∧ decide (9999 < f.no) = false ∧ decide (f.no ≤ last) = false ∧ decide (f.safe < 0) = true ∧ okR last opn f = false) ∨ (decide (f.no < 1) = false ∧ decide (9999 < f.no) = false ∧ decide (f.no ≤ last) = false ∧ decide (f.safe < 0) = false ∧ decide ((f.recs.length : Int) < f.safe) = true ∧ okR last opn f = false) ∨ (decide (f.no < 1) = false ∧ decide (9999 < f.no) = false ∧ decide (f.no ≤ last) = false ∧ decide (f.safe < 0) = false ∧ decide ((f.recs.length : Int) < f.safe) = false ∧ (f.no != opn) = true ∧ decide (f.safe < (f.recs.length : Int)) = true ∧ okR last opn f = false)) ∨ ((decide (f.no < 1) = false ∧ decide (9999 < f.no) = false ∧ decide (f.no ≤ last) = false ∧ decide (f.safe < 0) = false ∧ decide ((f.recs.length : Int) < f.safe) = false ∧ (f.no != opn) = false ∧ okR last opn f = true) ∨ (decide (f.no < 1) = false ∧ decide (9999 < f.no) = false ∧ decide (f.no ≤ last) = false ∧ decide (f.safe < 0) = false ∧ decide ((f.recs.length : Int) < f.safe) = false ∧ (f.no != opn) = true ∧ decide (f.safe < (f.recs.length : Int)) = false ∧ okR last opn f = true)) := by
                unfold okR
                have himp : decide (f.no < 1) = true → decide (f.no ≤ last) = true := by simp only [decide_eq_true_eq]; omega
                rw [show decide (last < f.no) = !decide (f.no ≤ last) by rw [← decide_not]; exact decide_eq_decide.2 (by omega), show decide (f.no ≤ 9999) = !decide (9999 < f.no) by rw [← decide_not]; exact decide_eq_decide.2 (by omega), show decide (0 ≤ f.safe) = !decide (f.safe < 0) by rw [← decide_not]; exact decide_eq_decide.2 (by omega), show decide (f.safe ≤ (f.recs.length : Int)) = !decide ((f.recs.length : Int) < f.safe) by rw [← decide_not]; exact decide_eq_decide.2 (by omega), show decide ((f.recs.length : Int) ≤ f.safe) = !decide (f.safe < (f.recs.length : Int)) by rw [← decide_not]; exact decide_eq_decide.2 (by omega), show (f.no == opn) = !(f.no != opn) by rw [bne, Bool.not_not]]
                revert himp
                generalize decide (f.no < 1) = b1
                generalize decide (9999 < f.no) = b2
                generalize decide (f.no ≤ last) = b3
                generalize decide (f.safe < 0) = b4
                generalize decide ((f.recs.length : Int) < f.safe) = b5
                generalize (f.no != opn) = b6
                generalize decide (f.safe < (f.recs.length : Int)) = b7
                cases b1 <;> cases b2 <;> cases b3 <;> cases b4 <;> cases b5 <;> cases b6 <;> cases b7 <;> simp
              rcases hways with hways | hways
              · rcases hways with ⟨g0, hw⟩ | ⟨g0, g1, hw⟩ | ⟨g0, g1, g2, hw⟩ | ⟨g0, g1, g2, g3, hw⟩ | ⟨g0, g1, g2, g3, g4, hw⟩ | ⟨g0, g1, g2, g3, g4, g5, g6, hw⟩
                all_goals
                  refine wp_region_flow [.free 0, .calm 1, .free 2, .free 3, .free 4, .calm 5, .free 6, .free 7, .free 8, .free 9, .free 10, .free 11, .free 12, .calm 13, .free 14, .free 15, .free 16, .free 17, .calm 18, .free 19, .calm 20, .free 21, .free 22, .free 23, .free 24, .free 25, .calm 26, .free 27, .free 28, .free 29, .free 30, .calm 31, .free 32, .calm 33, .free 34, .free 35, .free 36, .free 37, .free 38, .calm 39, .calm 40, .calm 41, .free 42, .free 43, .free 44, .calm 45, .free 46, .calm 47, .free 48, .free 49, .free 50, .free 51] (Below w2.heap.size w2) (Below w2.heap.size w2) (stable_below _ _ (Nat.le_refl _)) (fun _ h => h) (by kernel_rfl) (by kernel_rfl) (below_drew1 (Below.refl _ _)) ?_
                  simp only [pickEnts, pickF, List.getElem?_cons_succ, List.getElem?_cons_zero, List.filterMap_cons, List.filterMap_nil, Option.map_some]
                  repeat ((first | refine flow_calm (fun K hK => ?_) | refine flow_free (fun K hK => ?_) | refine float_calm (fun K hK => ?_) | refine float_free (fun K hK => ?_)); go_simp; (try simp only [Hwr.out]); first | (refine hK _ ?_; clear hK K) | (apply Exists.intro; (refine ⟨fun X => ?_, hK _ ?_⟩); (first | (intro hC; rfl) | rfl | (intro hC; have q := HC2.out.later hC.out; have q0 := q.cell 0 _ rfl; have q1 := q.cell 1 _ rfl; have q2 := q.cell 2 _ rfl; have dq := HCr.out.later (below_step HB2.out hC.out); have d0 := dq.cell 0 _ rfl; have d1 := dq.cell 1 _ rfl; have x0 := cell_keep (below_step HB2.out hC.out) HP0.out; (try simp only [Hwr.out]); go_simp; done) | (intro hC; have q := HC2.out.later hC.out; have q0 := q.cell 0 _ rfl; have q1 := q.cell 1 _ rfl; have q2 := q.cell 2 _ rfl; have dq := HCr.out.later (below_step HB2.out hC.out); have d0 := dq.cell 0 _ rfl; have d1 := dq.cell 1 _ rfl; have x0 := cell_keep (below_step HB2.out hC.out) HP0.out; (try simp only [Hwr.out]); go_simp; rfl) | (intro hC; (with_reducible refine (ref_open d _ _ cf cl _ Hne.out (Hd.out.later (below_step HBr.out (below_step HB2.out hC.out)))).mono ?_); rintro e w' ⟨rfl, hb⟩; rw [Hopn.out]; exact ⟨rfl, hb⟩)); clear hK K))
                  refine flow_nil ?_
                  intro X hX
                  have hbX := below_step HB2.out hX.out
                  clear hX
                  go_wp2
                  go_ret
                  exact ⟨by rw [Hsh.out, Hl.out, hst.out, hw]; rfl, below_step HBr.out hbX⟩
              · rcases hways with ⟨g0, g1, g2, g3, g4, g5, hw⟩ | ⟨g0, g1, g2, g3, g4, g5, g6, hw⟩
                all_goals
                  refine wp_region_flow [.free 0, .calm 1, .free 2, .free 3, .free 4, .calm 5, .free 6, .free 7, .free 8, .free 9, .free 10, .free 11, .free 12, .calm 13, .free 14, .free 15, .free 16, .free 17, .calm 18, .free 19, .calm 20, .free 21, .free 22, .free 23, .free 24, .free 25, .calm 26, .free 27, .free 28, .free 29, .free 30, .calm 31, .free 32, .calm 33, .free 34, .free 35, .free 36, .free 37, .free 38, .calm 39, .calm 40, .calm 41, .free 42, .free 43, .free 44, .calm 45, .free 46, .calm 47, .free 48, .free 49, .free 50, .free 51] (Below w2.heap.size w2) (Below w2.heap.size w2) (stable_below _ _ (Nat.le_refl _)) (fun _ h => h) (by kernel_rfl) (by kernel_rfl) (below_drew1 (Below.refl _ _)) ?_
                  simp only [pickEnts, pickF, List.getElem?_cons_succ, List.getElem?_cons_zero, List.filterMap_cons, List.filterMap_nil, Option.map_some]
                  repeat ((first | refine flow_calm (fun K hK => ?_) | refine flow_free (fun K hK => ?_) | refine float_calm (fun K hK => ?_) | refine float_free (fun K hK => ?_)); go_simp; (try simp only [Hwr.out]); first | (refine hK _ ?_; clear hK K) | (apply Exists.intro; (refine ⟨fun X => ?_, hK _ ?_⟩); (first | (intro hC; rfl) | rfl | (intro hC; have q := HC2.out.later hC.out; have q0 := q.cell 0 _ rfl; have q1 := q.cell 1 _ rfl; have q2 := q.cell 2 _ rfl; have dq := HCr.out.later (below_step HB2.out hC.out); have d0 := dq.cell 0 _ rfl; have d1 := dq.cell 1 _ rfl; have x0 := cell_keep (below_step HB2.out hC.out) HP0.out; (try simp only [Hwr.out]); go_simp; done) | (intro hC; have q := HC2.out.later hC.out; have q0 := q.cell 0 _ rfl; have q1 := q.cell 1 _ rfl; have q2 := q.cell 2 _ rfl; have dq := HCr.out.later (below_step HB2.out hC.out); have d0 := dq.cell 0 _ rfl; have d1 := dq.cell 1 _ rfl; have x0 := cell_keep (below_step HB2.out hC.out) HP0.out; (try simp only [Hwr.out]); go_simp; rfl) | (intro hC; (with_reducible refine (ref_open d _ _ cf cl _ Hne.out (Hd.out.later (below_step HBr.out (below_step HB2.out hC.out)))).mono ?_); rintro e w' ⟨rfl, hb⟩; rw [Hopn.out]; exact ⟨rfl, hb⟩)); clear hK K))
                  refine flow_nil ?_
                  intro X hX
                  have hbX := below_step HB2.out hX.out
                  have x1 := (HC2.out.later hX.out).cell 1 _ rfl
                  clear hX
                  have hno : k + 1 ≤ f.no ∧ f.no ≤ 9999 := by
                    have hh := hw
                    simp only [okR, Bool.and_eq_true, decide_eq_true_eq] at hh
                    omega
                  have hwS := HwS.out
                  go_wp2
                  exact ⟨⟨k + 1, f.no, by omega, by go_num, by rw [hsz1, Int.natCast_add], hbX, fun h => absurd h (by omega), fun _ => ⟨f, Hget.out, rfl⟩, hno.1, hno.2, by omega, Lib.hid (by rw [hst.out, hw]; rfl)⟩, by simp [intOf]; omega⟩
          · have hkl2 : k = d.files.length := by omega
            have h1 : filesR 0 opn d.files = true := by rw [Hp.out, hkl2, List.drop_of_length_le (Nat.le_refl _)]; rfl
            have hS : sizeR (d.files.take k) = sizeR d.files := by rw [hkl2, List.take_length]
            rw [hS]
            have H1 := Lib.hid h1
            clear h1 hkl2 hS Hp hz0 hz1
            go_wp2
            go_ret
            exact ⟨by rw [Hsh.out, Hl.out, H1.out]; rfl, below_step HBr.out hB⟩
  · have hlb : shapedB d = false := by simp [shapedB, listB, h8]
    have hz : decide ((d.list.length : Int) < 1) = false := by simp; omega
    have h8b : decide ((8 : Int) < d.list.length) = true := by simp; omega
    go_enter Try.func51, Try.ntmps51
    go_wp2
    go_ret
    exact ⟨by rw [hlb]; rfl, (by repeat (first | exact Below.refl _ _ | assumption | apply below_alloc | apply below_drew1 | apply pw_below_drewN | refine below_step ?_ (by assumption)))⟩
end Go.Proofs.Ytfmojgdomficlaa
set_option linter.unusedVariables false
set_option linter.unusedSimpArgs false
/-! The reference: Disk, Check, News, Whole, Begin. -/
namespace Go.Proofs.Ytfmojgdomficlaa
open Go.RowKit Go.Shelf Go.Proofs.YtfmojgdomficlaaW.PrintWords

theorem nodup_len : ∀ (l m : List Int), l.Nodup → (∀ x ∈ l, x ∈ m) → l.length ≤ m.length
  | [], _, _, _ => Nat.zero_le _
  | x :: l, m, hn, h => by
    have hx := h x List.mem_cons_self
    obtain ⟨h1, h2⟩ := List.nodup_cons.1 hn
    have ih := nodup_len l (m.erase x) h2 (fun y hy => (List.mem_erase_of_ne (fun (e : y = x) => h1 (e ▸ hy))).2 (h y (List.mem_cons_of_mem _ hy)))
    rw [List.length_erase_of_mem hx] at ih
    have := List.length_pos_of_mem hx
    simp only [List.length_cons]
    omega
theorem good_lt (l : List SRec) : decide (((goodOf l).length : Int) < l.length) = !l.all rightB := by
  cases h : l.all rightB
  · have : (goodOf l).length < l.length := by
      apply Classical.byContradiction
      intro hge
      have e : goodOf l = l := by
        have h1 := goodOf_take l
        rw [List.take_of_length_le (by omega)] at h1
        exact h1
      have : l.all rightB = true := List.all_eq_true.2 fun x hx => by
        rw [← e] at hx
        have := List.all_takeWhile (p := rightB) (l := l)
        exact List.all_eq_true.1 this x hx
      rw [h] at this
      cases this
    simp
    omega
  · rw [goodOf_self h]
    simp
theorem nos_nodup {d : SDisk} (h : DiskOk d) : (d.files.map (·.no)).Nodup := by
  have := (List.pairwise_cons.1 h.sorted).2
  exact this.imp fun hab e => by omega
theorem list_nos {d : SDisk} (h : DiskOk d) : ∀ no ∈ d.list, no ∈ d.files.map (·.no) := fun no hno => by
  obtain ⟨i, hi⟩ := Option.isSome_iff_exists.1 (h.placed no hno)
  obtain ⟨_, f, h1, h2, _⟩ := placeI_spec no d.files 0 i hi
  exact List.mem_map.2 ⟨f, List.mem_of_getElem? h1, h2⟩
/-- Of a formed device the two ways to say that it is whole are one. -/
theorem whole_eq {d : SDisk} (h : DiskOk d) : wholeR d = wholeB d := by
  have hn := nos_nodup h
  have hl := list_nos h
  have e1 : d.files.all (fun f => !decide (((goodOf f.recs).length : Int) < f.recs.length)) = d.files.all fun f => f.recs.all rightB := by
    congr 1
    funext f
    rw [good_lt, Bool.not_not]
  have e2 : wholeB d = ((d.files.all fun f => f.recs.all rightB) && d.files.all fun f => d.list.contains f.no) := by
    unfold wholeB
    generalize d.files = fs
    induction fs with
    | nil => rfl
    | cons f fs ih =>
      simp only [List.all_cons, ih]
      cases f.recs.all rightB <;> cases d.list.contains f.no <;> cases (fs.all fun f => f.recs.all rightB) <;> simp
  have e3 : ((d.files.length : Int) == d.list.length) = d.files.all fun f => d.list.contains f.no := by
    have hle := nodup_len d.list (d.files.map (·.no)) h.nodup hl
    rw [List.length_map] at hle
    cases hc : d.files.all fun f => d.list.contains f.no
    · obtain ⟨f, hf, hfc⟩ := List.all_eq_false.1 hc
      have hnot : f.no ∉ d.list := fun hm => hfc (by simpa using hm)
      have h2 := nodup_len (f.no :: d.list) (d.files.map (·.no)) (List.nodup_cons.2 ⟨hnot, h.nodup⟩) (fun x hx => by
        rcases List.mem_cons.1 hx with rfl | hx
        · exact List.mem_map.2 ⟨f, hf, rfl⟩
        · exact hl x hx)
      rw [List.length_map, List.length_cons] at h2
      simp
      omega
    · have h2 := nodup_len (d.files.map (·.no)) d.list hn (fun x hx => by
        obtain ⟨f, hf, rfl⟩ := List.mem_map.1 hx
        have := List.all_eq_true.1 hc f hf
        simpa using this)
      rw [List.length_map] at h2
      simp
      omega
  rw [wholeR, e1, e2, e3]
theorem there_bytes {d : SDisk} (h : shapedB d = true) : ((thereOf d).length + 1) * 56 ≤ 140737488355328 := by
  simp only [shapedB, Bool.and_eq_true] at h
  have := there_small h.1 h.2
  omega
theorem shaped_list {d : SDisk} (h : shapedB d = true) : listB d = true := by
  simp only [shapedB, Bool.and_eq_true] at h
  exact h.1
set_option maxRecDepth 100000 in
set_option maxHeartbeats 4000000 in
theorem ref_Disk (d : SDisk) (Af Al : Option Addr) (cf cl : Nat) (w : World) (hd : DRows w Af cf Al cl d) (hF : ∀ f ∈ d.files, f.recs.length ≤ 2199023255552) :
    Calls Try.prog 28 #[.agg #[.slice Af d.files.length cf, .slice Al d.list.length cl]] w fun e w' => e = .returned (.bool (diskB d)) ∧ Below w.heap.size w w' := by
  have Hd := Lib.hid hd
  clear hd
  cases hs : shapedB d
  · have hb : diskB d = false := by simp [diskB, hs]
    have Hs := Lib.hid hs
    clear hs
    go_enter Try.func28, Try.ntmps28
    go_wp2_with (first | (go_at_call 51; (with_reducible refine (ref_shaped d _ _ cf cl _ (Hd.out.later (below_alloc (Below.refl _ _) _)) hF).mono ?_); rintro e w2 ⟨rfl, hb2⟩; rw [Hs.out]))
    go_ret
    exact ⟨by rw [hb]; rfl, below_step (below_alloc (Below.refl _ _) _) hb2⟩
  · have hb : diskB d = formedB (thereOf d) 4 := by simp [diskB, hs]
    have hp := listB_some (shaped_list hs)
    have hN := there_bytes hs
    have Hs := Lib.hid hs
    have Hb := Lib.hid hb
    clear hs hb
    go_enter Try.func28, Try.ntmps28
    go_wp2_with (first
      | (go_at_call 51; (with_reducible refine (ref_shaped d _ _ cf cl _ (Hd.out.later (below_alloc (Below.refl _ _) _)) hF).mono ?_); rintro e w2 ⟨rfl, hb2⟩; rw [Hs.out]; obtain ⟨hc2, hf2⟩ := bcell hb2)
      | (go_at_call 43; (with_reducible refine (ref_NewsOf d _ _ cf cl _ (Hd.out.later (below_step (below_alloc (Below.refl _ _) _) hb2)) hp hN).mono ?_); rintro e w3 ⟨v, rfl, ho, hb3⟩; obtain ⟨A3, c3, rfl, h31, h32⟩ := own_reads' ho)
      | (go_at_call 32; (with_reducible refine (ref_Formed (thereOf d) A3 c3 4 _ h32 h31).mono ?_); rintro e w4 ⟨rfl, hb4⟩))
    go_ret
    exact ⟨by rw [Hb.out]; rfl, below_step (below_step (below_step (below_alloc (Below.refl _ _) _) hb2) hb3) hb4⟩
set_option maxRecDepth 100000 in
set_option maxHeartbeats 4000000 in
theorem ref_Check26 (d : SDisk) (Af Al : Option Addr) (cf cl : Nat) (w : World) (hd : DRows w Af cf Al cl d) (hF : ∀ f ∈ d.files, f.recs.length ≤ 2199023255552) :
    Calls Try.prog 19 #[.agg #[.slice Af d.files.length cf, .slice Al d.list.length cl]] w fun e w' => e = .returned (.int .i64 (if diskB d then 0 else 2)) ∧ Below w.heap.size w w' := by
  have Hd := Lib.hid hd
  clear hd
  cases hb : diskB d
  all_goals
    have Hb := Lib.hid hb
    clear hb
    go_enter Try.func19, Try.ntmps19
    go_wp2_with (first | (go_at_call 28; (with_reducible refine (ref_Disk d _ _ cf cl _ (Hd.out.later (below_alloc (Below.refl _ _) _)) hF).mono ?_); rintro e w2 ⟨rfl, hb2⟩; rw [Hb.out]))
    go_ret
    exact ⟨rfl, below_step (below_alloc (Below.refl _ _) _) hb2⟩
set_option maxRecDepth 100000 in
set_option maxHeartbeats 4000000 in
theorem ref_News26 (d : SDisk) (Af Al : Option Addr) (cf cl : Nat) (w : World) (hd : DRows w Af cf Al cl d) (hF : ∀ f ∈ d.files, f.recs.length ≤ 2199023255552) :
    Calls Try.prog 15 #[.agg #[.slice Af d.files.length cf, .slice Al d.list.length cl]] w fun e w' => ∃ v, e = .returned (.tuple #[v, .int .i64 (if diskB d then 0 else 2)]) ∧ Own kNews 26 w' w.heap.size v (if diskB d then thereOf d else []) ∧ Below w.heap.size w w' := by
  have Hd := Lib.hid hd
  clear hd
  cases hb : diskB d
  · have Hb := Lib.hid hb
    clear hb
    go_enter Try.func15, Try.ntmps15
    go_wp2_with (first | (go_at_call 28; (with_reducible refine (ref_Disk d _ _ cf cl _ (Hd.out.later (below_alloc (Below.refl _ _) _)) hF).mono ?_); rintro e w2 ⟨rfl, hb2⟩; rw [Hb.out]))
    go_ret2
    exact ⟨_, rfl, Kd.R_nil _ _ _ _ _, below_step (below_alloc (Below.refl _ _) _) hb2⟩
  · have hs : shapedB d = true := by simp only [diskB, Bool.and_eq_true] at hb; exact hb.1
    have hp := listB_some (shaped_list hs)
    have hN := there_bytes hs
    have Hb := Lib.hid hb
    clear hb hs
    go_enter Try.func15, Try.ntmps15
    go_wp2_with (first
      | (go_at_call 28; (with_reducible refine (ref_Disk d _ _ cf cl _ (Hd.out.later (below_alloc (Below.refl _ _) _)) hF).mono ?_); rintro e w2 ⟨rfl, hb2⟩; rw [Hb.out]; obtain ⟨hc2, hf2⟩ := bcell hb2)
      | (go_at_call 43; (with_reducible refine (ref_NewsOf d _ _ cf cl _ (Hd.out.later (below_step (below_alloc (Below.refl _ _) _) hb2)) hp hN).mono ?_); rintro e w3 ⟨v, rfl, ho, hb3⟩))
    go_ret2
    exact ⟨_, rfl, Kd.R_lower ho (by have := hb2.size; simp at this; omega), below_step (below_step (below_alloc (Below.refl _ _) _) hb2) hb3⟩
set_option maxRecDepth 100000 in
set_option maxHeartbeats 4000000 in
theorem ref_Whole26 (d : SDisk) (Af Al : Option Addr) (cf cl : Nat) (w : World) (hd : DRows w Af cf Al cl d) (hF : ∀ f ∈ d.files, f.recs.length ≤ 2199023255552) :
    Calls Try.prog 17 #[.agg #[.slice Af d.files.length cf, .slice Al d.list.length cl]] w fun e w' => e = .returned (.tuple #[.bool (diskB d && wholeB d), .int .i64 (if diskB d then 0 else 2)]) ∧ Below w.heap.size w w' := by
  have Hd := Lib.hid hd
  clear hd
  cases hb : diskB d
  · have Hb := Lib.hid hb
    clear hb
    go_enter Try.func17, Try.ntmps17
    go_wp2_with (first | (go_at_call 28; (with_reducible refine (ref_Disk d _ _ cf cl _ (Hd.out.later (below_alloc (Below.refl _ _) _)) hF).mono ?_); rintro e w2 ⟨rfl, hb2⟩; rw [Hb.out]))
    go_ret2
    exact ⟨rfl, below_step (below_alloc (Below.refl _ _) _) hb2⟩
  · have Hw := Lib.hid (whole_eq ((disk_iff d).1 hb))
    have Hb := Lib.hid hb
    clear hb
    go_enter Try.func17, Try.ntmps17
    go_wp2_with (first
      | (go_at_call 28; (with_reducible refine (ref_Disk d _ _ cf cl _ (Hd.out.later (below_alloc (Below.refl _ _) _)) hF).mono ?_); rintro e w2 ⟨rfl, hb2⟩; rw [Hb.out]; obtain ⟨hc2, hf2⟩ := bcell hb2)
      | (go_at_call 29; (with_reducible refine (ref_WholeOf d _ _ cf cl _ (Hd.out.later (below_step (below_alloc (Below.refl _ _) _) hb2))).mono ?_); rintro e w3 ⟨rfl, hb3⟩; rw [Hw.out]))
    go_ret2
    exact ⟨rfl, below_step (below_step (below_alloc (Below.refl _ _) _) hb2) hb3⟩
set_option maxRecDepth 100000 in
set_option maxHeartbeats 2000000 in
theorem ref_Begin26 (w : World) :
    Calls Try.prog 23 #[] w fun e w' => ∃ Af cf Al cl, e = .returned (.agg #[.slice Af beginD.files.length cf, .slice Al beginD.list.length cl]) ∧ DRows w' Af cf Al cl beginD ∧ Below w.heap.size w w' := by
  go_enter Try.func23, Try.ntmps23
  go_wp2
  obtain ⟨k1, k2, k3, hB⟩ := three_new w #[.slice (some ⟨w.heap.size + 1, 0, none⟩) 1 1, .slice (some ⟨w.heap.size + 1 + 1, 0, none⟩) 1 1] #[.int .i64 1, .slice none 0 0, .int .i64 0] #[.int .i64 1] 33 62 3
  have z0 := k1.cell 0 _ rfl
  have z1 := k1.cell 1 _ rfl
  refine bodyPost_ret (v := .agg #[.slice (some ⟨w.heap.size + 1, 0, none⟩) 1 1, .slice (some ⟨w.heap.size + 1 + 1, 0, none⟩) 1 1]) (by simp [results, Try.results23, go_sem, z0, z1]) rfl ?_
  exact ⟨_, _, _, _, rfl, ⟨lit_row kSFile _ _ ⟨1, [], 0⟩ [.int .i64 1, .slice none 0 0, .int .i64 0] 62 k2 (kSFile_mk ⟨1, [], 0⟩ none 0 (Nat.le_refl _) ⟨rfl, by simp, fun h => absurd h (by simp)⟩), lit_row (Kd.int .i64) _ _ 1 [.int .i64 1] 3 k3 rfl, Nat.le_refl _, Nat.le_refl _⟩, hB⟩
end Go.Proofs.Ytfmojgdomficlaa
