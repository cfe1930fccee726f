/-
  Texts of one hand, laid together: RefB, RefC, RefF, RefG, RefS.
-/
import Derived.Test.YtfmojgdomficlaaZK
import Derived.Deep.RegionHeld3
import Derived.Deep.DeepCutAuto
set_option linter.unusedVariables false
set_option linter.unusedSimpArgs false
/-! The reference: good, WholeOf. -/
namespace Go.Proofs.Ytfmojgdomficlaa
open Go.RowKit Go.Shelf Go.Proofs.YtfmojgdomficlaaW.PrintWords

set_option maxRecDepth 100000 in
set_option maxHeartbeats 4000000 in
theorem ref_good (no safe : Int) (A : Option Addr) (c : Nat) (rs : List SRec) (w : World) (hrow : RecRow w A rs.length rs) (hc : rs.length ≤ c) :
    Calls Try.prog 52 #[.agg #[.int .i64 no, .slice A rs.length c, .int .i64 safe]] w fun e w' => e = .returned (.slice A (goodOf rs).length c) ∧ Below w.heap.size w w' := by
  have hm : rs.length ≤ 9223372036854775807 := hrow.2.1
  have HR := Lib.hid hrow
  clear hrow
  go_enter Try.func52, Try.ntmps52
  go_wp2
  have HC := Lib.hid (Cells.new w #[.int .i64 no, .slice A rs.length c, .int .i64 safe] 62)
  have HB := Lib.hid (below_alloc (Below.refl w.heap.size w) (.cells #[.int .i64 no, .slice A rs.length c, .int .i64 safe] 62))
  generalize w.alloc (.cells #[.int .i64 no, .slice A rs.length c, .int .i64 safe] 62) = w1 at HC HB ⊢
  go_loopw [3] (fun i wr => ∃ k : Nat, k ≤ rs.length ∧ i = .int .i64 k ∧ Below w1.heap.size w1 wr ∧ Hid (goodOf rs = rs.take k ++ goodOf (rs.drop k))) (fun i _ => rs.length - (intOf i).toNat)
  case atStart => exact ⟨0, Nat.zero_le _, rfl, Below.refl _ _, Lib.hid (by simp)⟩
  case round =>
    obtain ⟨k, hk, rfl, hB, Hg⟩ := hrel
    have hcb := (HC.out.later hB).cell 1 _ rfl
    by_cases hlt : k < rs.length
    · obtain ⟨r, ad, hd, htk, hget, rfl, e0, e1, e2, e3, e4, e5, e6, e7⟩ := srec_at (Kd.C_below HR.out (below_step HB.out hB)) k hlt
      have Hget := Lib.hid hget
      clear hd hget htk
      cases hr : rightB r
      · have Hst := Lib.hid (goodOf_stop rs k r Hget.out hr Hg.out)
        have Hr := Lib.hid hr
        clear hr
        go_wp2_with (go_at_call 77; (with_reducible refine (ref_right r _).mono ?_); rintro e w2 ⟨rfl, hb2⟩; rw [Hr.out]; have hcb2 := (HC.out.later (below_step hB hb2)).cell 1 _ rfl)
        go_ret
        exact ⟨by rw [Hst.out, List.length_take, Nat.min_eq_left (Nat.le_of_lt hlt)]; rfl, below_step HB.out (below_step hB hb2)⟩
      · have Hsn := Lib.hid (goodOf_snoc rs k r Hget.out hr Hg.out)
        have Hr := Lib.hid hr
        clear hr
        go_wp2_with (go_at_call 77; (with_reducible refine (ref_right r _).mono ?_); rintro e w2 ⟨rfl, hb2⟩; rw [Hr.out])
        exact ⟨⟨k + 1, by omega, by go_num, below_step hB hb2, Lib.hid Hsn.out⟩, by simp [intOf]; omega⟩
    · have hkl : k = rs.length := by omega
      have Hend := Lib.hid (show (goodOf rs).length = k by rw [Hg.out, hkl, List.drop_of_length_le (Nat.le_refl _)]; simp [goodOf])
      go_wp2
      go_ret
      exact ⟨by rw [Hend.out, hkl]; rfl, below_step HB.out hB⟩
/-- Whole, as the reference counts. -/
def wholeR (d : SDisk) : Bool := d.files.all (fun f => !decide (((goodOf f.recs).length : Int) < f.recs.length)) && ((d.files.length : Int) == d.list.length)
set_option maxRecDepth 100000 in
set_option maxHeartbeats 4000000 in
theorem ref_WholeOf (d : SDisk) (Af Al : Option Addr) (cf cl : Nat) (w : World) (hd : DRows w Af cf Al cl d) :
    Calls Try.prog 29 #[.agg #[.slice Af d.files.length cf, .slice Al d.list.length cl]] w fun e w' => e = .returned (.bool (wholeR d)) ∧ Below w.heap.size w w' := by
  have hm : d.files.length ≤ 9223372036854775807 := hd.files.2.1
  have hm2 : d.list.length ≤ 9223372036854775807 := hd.list.2.1
  have hcf := hd.capf
  have Hf := Lib.hid hd.files
  clear hd
  go_enter Try.func29, Try.ntmps29
  go_wp2
  have HC := Lib.hid (Cells.new w #[.slice Af d.files.length cf, .slice Al d.list.length cl] 33)
  have HB := Lib.hid (below_alloc (Below.refl w.heap.size w) (.cells #[.slice Af d.files.length cf, .slice Al d.list.length cl] 33))
  generalize w.alloc (.cells #[.slice Af d.files.length cf, .slice Al d.list.length cl] 33) = w1 at HC HB ⊢
  go_loopw [8] (fun i wr => ∃ k : Nat, k ≤ d.files.length ∧ i = .int .i64 k ∧ Below w1.heap.size w1 wr ∧ Hid (d.files.all (fun f => !decide (((goodOf f.recs).length : Int) < f.recs.length)) = (d.files.drop k).all (fun f => !decide (((goodOf f.recs).length : Int) < f.recs.length)))) (fun i _ => d.files.length - (intOf i).toNat)
  case atStart => exact ⟨0, Nat.zero_le _, rfl, Below.refl _ _, Lib.hid (by simp)⟩
  case round =>
    obtain ⟨k, hk, rfl, hB, Hp⟩ := hrel
    by_cases hlt : k < d.files.length
    · obtain ⟨f, ad, Ar, cr, hd1, htk, hget, rfl, e0, e1, e2, hcr, hrr⟩ := sfile_at (Kd.C_below Hf.out (below_step HB.out hB)) k hlt
      have Hst := Lib.hid (by rw [Hp.out, hd1, List.all_cons] : d.files.all (fun f => !decide (((goodOf f.recs).length : Int) < f.recs.length)) = _)
      have Hrr := Lib.hid hrr
      clear hd1 htk hget hrr
      have hmr : f.recs.length ≤ 9223372036854775807 := Hrr.out.2.1
      go_upto_region 4 with fail
      have HC2 := Lib.hid (Cells.new wr #[.int .i64 f.no, .slice Ar f.recs.length cr, .int .i64 f.safe] 62)
      have HB2 := Lib.hid (below_alloc (Below.refl wr.heap.size wr) (.cells #[.int .i64 f.no, .slice Ar f.recs.length cr, .int .i64 f.safe] 62))
      generalize wr.alloc (.cells #[.int .i64 f.no, .slice Ar f.recs.length cr, .int .i64 f.safe] 62) = w2 at HC2 HB2 ⊢
      refine wp_region_flow [.calm 0, .calm 1, .free 2, .free 3, .calm 4, .free 5, .free 6] (Below w2.heap.size w2) (Below w2.heap.size w2) (stable_below _ _ (Nat.le_refl _)) (fun _ h => h) (by kernel_rfl) (by kernel_rfl) (below_drew1 (Below.refl _ _)) ?_
      simp only [pickEnts, pickF, List.getElem?_cons_succ, List.getElem?_cons_zero, List.filterMap_cons, List.filterMap_nil, Option.map_some]
      repeat ((first | refine flow_calm (fun K hK => ?_) | refine flow_free (fun K hK => ?_) | refine float_calm (fun K hK => ?_) | refine float_free (fun K hK => ?_)); go_simp; first | (refine hK _ ?_; clear hK K) | (apply Exists.intro; (refine ⟨fun X => ?_, hK _ ?_⟩); (first | (intro hC; rfl) | rfl | (intro hC; have q := HC2.out.later hC.out; have q0 := q.cell 0 _ rfl; have q1 := q.cell 1 _ rfl; have q2 := q.cell 2 _ rfl; go_simp; done) | (intro hC; have q := HC2.out.later hC.out; have q0 := q.cell 0 _ rfl; have q1 := q.cell 1 _ rfl; have q2 := q.cell 2 _ rfl; go_simp; rfl) | (intro hC; (with_reducible refine (ref_good f.no f.safe Ar cr f.recs _ (Kd.C_below Hrr.out (below_step HB2.out hC.out)) hcr).mono ?_); rintro e w' ⟨rfl, hb⟩; exact ⟨rfl, hb⟩)); clear hK K))
      refine flow_nil ?_
      intro w3 hX
      have hb3 := hX.out
      clear hX
      have hb13 := below_step hB (below_step HB2.out hb3)
      by_cases hs : (goodOf f.recs).length < f.recs.length
      · have e : decide (((goodOf f.recs).length : Int) < f.recs.length) = true := decide_eq_true (by omega)
        go_wp2
        go_ret
        exact ⟨by rw [wholeR, Hst.out, e]; rfl, below_step HB.out hb13⟩
      · have e : decide (((goodOf f.recs).length : Int) < f.recs.length) = false := decide_eq_false (by omega)
        go_wp2
        exact ⟨⟨k + 1, by omega, by go_num, hb13, Lib.hid (by rw [Hst.out, e]; rfl)⟩, by simp [intOf]; omega⟩
    · have hkl : k = d.files.length := by omega
      have Hend := Lib.hid (show d.files.all (fun f => !decide (((goodOf f.recs).length : Int) < f.recs.length)) = true by rw [Hp.out, hkl, List.drop_of_length_le (Nat.le_refl _)]; rfl)
      have q0 := (HC.out.later hB).cell 0 _ rfl
      have q1 := (HC.out.later hB).cell 1 _ rfl
      go_wp2
      go_ret
      exact ⟨by rw [wholeR, Hend.out]; rfl, below_step HB.out hB⟩
end Go.Proofs.Ytfmojgdomficlaa
set_option linter.unusedVariables false
set_option linter.unusedSimpArgs false
/-! The reference: NewsOf. -/
namespace Go.Proofs.Ytfmojgdomficlaa
open Go.RowKit Go.Shelf Go.Proofs.YtfmojgdomficlaaW.PrintWords

theorem Cells.new2 (W : World) (o : Obj) (cs : Array Value) (t : TypeId) : Cells ((W.alloc o).alloc (.cells cs t)) (W.heap.size + 1) cs t := by
  have h := Cells.new (W.alloc o) cs t
  rwa [World.size_alloc] at h
theorem goodOf_take (rs : List SRec) : goodOf rs = rs.take (goodOf rs).length := List.prefix_iff_eq_take.1 (List.takeWhile_prefix _)
theorem goodOf_le (rs : List SRec) : (goodOf rs).length ≤ rs.length := (List.takeWhile_prefix _).length_le
theorem good_row {w : World} {A : Option Addr} {rs : List SRec} (h : RecRow w A rs.length rs) : RecRow w A (goodOf rs).length (goodOf rs) := by
  have := Kd.C_take h (goodOf_le rs)
  rwa [← goodOf_take] at this
set_option maxRecDepth 100000 in
set_option maxHeartbeats 4000000 in
theorem ref_NewsOf (d : SDisk) (Af Al : Option Addr) (cf cl : Nat) (w : World) (hd : DRows w Af cf Al cl d) (hp : ∀ no ∈ d.list, (placeI no d.files 0).isSome = true) (hN : ((thereOf d).length + 1) * 56 ≤ 140737488355328) :
    Calls Try.prog 43 #[.agg #[.slice Af d.files.length cf, .slice Al d.list.length cl]] w fun e w' => ∃ v, e = .returned v ∧ Own kNews 26 w' w.heap.size v (thereOf d) ∧ Below w.heap.size w w' := by
  have hcl := hd.capl
  have hcf := hd.capf
  have hm : d.list.length ≤ 9223372036854775807 := hd.list.2.1
  have hmf : d.files.length ≤ 9223372036854775807 := hd.files.2.1
  have Hd := Lib.hid hd
  have Hp := Lib.hid hp
  clear hd hp
  go_enter Try.func43, Try.ntmps43
  go_wp2
  have HC := Lib.hid (Cells.new w #[.slice Af d.files.length cf, .slice Al d.list.length cl] 33)
  have HB := Lib.hid (below_alloc (Below.refl w.heap.size w) (.cells #[.slice Af d.files.length cf, .slice Al d.list.length cl] 33))
  generalize w.alloc (.cells #[.slice Af d.files.length cf, .slice Al d.list.length cl] 33) = w1 at HC HB ⊢
  go_loopw [3, 11] (fun o i wr => ∃ k : Nat, k ≤ d.list.length ∧ i = .int .i64 k ∧ Below w1.heap.size w1 wr ∧ Hid (Own kNews 26 wr w1.heap.size o (thereFrom d.files (d.list.take k)))) (fun _ i _ => d.list.length - (intOf i).toNat)
  case atStart => exact ⟨0, Nat.zero_le _, rfl, Below.refl _ _, Lib.hid (Kd.R_nil _ _ _ _ _)⟩
  case round =>
    rename_i o i _
    obtain ⟨k, hk, rfl, hB, Ho⟩ := hrel
    have HB1 := Lib.hid (below_step HB.out hB)
    by_cases hlt : k < d.list.length
    · obtain ⟨no, al, hd1, htk, hget, rfl, e0⟩ := int_at (Kd.C_below Hd.out.list HB1.out) k hlt
      have hmem : no ∈ d.list := List.mem_of_getElem? hget
      obtain ⟨i, hi⟩ := Option.isSome_iff_exists.1 (Hp.out no hmem)
      obtain ⟨-, f, hf1, -, hf2⟩ := placeI_spec no d.files 0 i hi
      have hil : i < d.files.length := (List.getElem?_eq_some_iff.1 hf1).1
      obtain ⟨f', ad, Ar, cr, -, -, hget', rfl, p0, p1, p2, hcr, hrr⟩ := sfile_at Hd.out.files i hil
      obtain rfl : f = f' := by rw [Nat.sub_zero] at hf1; rw [hf1] at hget'; exact Option.some.inj hget'
      have hfo : fileOf d.files no = f := by rw [fileOf, hf2]; rfl
      have hth : thereFrom d.files (d.list.take (k + 1)) = thereFrom d.files (d.list.take k) ++ (goodOf f.recs).map (·.news) := by
        rw [htk]; simp [thereFrom, hfo]
      have hln : (thereFrom d.files (d.list.take (k + 1))).length ≤ (thereOf d).length := by
        have : thereOf d = thereFrom d.files (d.list.take (k + 1)) ++ thereFrom d.files (d.list.drop (k + 1)) := by
          rw [thereFrom, thereFrom, ← List.flatMap_append, List.take_append_drop]; rfl
        rw [this, List.length_append]; omega
      have Hth := Lib.hid hth
      have hpl : placeOf d.files no = (i : Int) := by simp only [placeOf, hi]
      have Hrr := Lib.hid hrr
      clear hi hf1 hf2 hget hget' hfo hth hrr hd1 htk hmem
      have P0 := Lib.hid p0
      have P1 := Lib.hid p1
      have P2 := Lib.hid p2
      clear p0 p1 p2
      go_upto_region 5 with fail
      refine wp_region_flow [.free 0, .calm 1, .calm 2, .free 3, .calm 4, .free 5, .calm 6, .calm 7, .free 8, .free 9] (Below wr.heap.size wr) (Below wr.heap.size wr) (stable_below _ _ (Nat.le_refl _)) (fun _ h => h) (by kernel_rfl) (by kernel_rfl) (below_drew1 (Below.refl _ _)) ?_
      simp only [pickEnts, pickF, List.getElem?_cons_succ, List.getElem?_cons_zero, List.filterMap_cons, List.filterMap_nil, Option.map_some]
      repeat ((first | refine flow_calm (fun K hK => ?_) | refine flow_free (fun K hK => ?_) | refine float_calm (fun K hK => ?_) | refine float_free (fun K hK => ?_)); go_simp; first | (refine hK _ ?_; clear hK K) | (apply Exists.intro; (refine ⟨fun X => ?_, hK _ ?_⟩); (first | (intro hC; rfl) | rfl | (intro hC; have q := HC.out.later (below_step hB hC.out); have q0 := q.cell 0 _ rfl; have q1 := q.cell 1 _ rfl; have x0 := cell_keep (below_step HB1.out hC.out) P0.out; have x1 := cell_keep (below_step HB1.out hC.out) P1.out; have x2 := cell_keep (below_step HB1.out hC.out) P2.out; go_simp; done) | (intro hC; have q := HC.out.later (below_step hB hC.out); have q0 := q.cell 0 _ rfl; have q1 := q.cell 1 _ rfl; have x0 := cell_keep (below_step HB1.out hC.out) P0.out; have x1 := cell_keep (below_step HB1.out hC.out) P1.out; have x2 := cell_keep (below_step HB1.out hC.out) P2.out; go_simp; rfl) | (intro hC; (with_reducible refine (ref_file d _ _ cf cl no _ (Hd.out.later (below_step HB1.out hC.out))).mono ?_); rintro e w' ⟨rfl, hb⟩; rw [hpl]; exact ⟨rfl, hb⟩) | (intro hC; (with_reducible refine (ref_good f.no f.safe Ar cr f.recs _ (Kd.C_below Hrr.out (below_step HB1.out hC.out)) hcr).mono ?_); rintro e w' ⟨rfl, hb⟩; exact ⟨rfl, hb⟩)); clear hK K))
      refine flow_nil ?_
      intro w2 hX
      have hB2 := below_step hB hX.out
      have Ho2 := Lib.hid (Kd.R_below Ho.out hX.out)
      have HG := Lib.hid (good_row Hrr.out)
      have hgm : (goodOf f.recs).length ≤ 9223372036854775807 := HG.out.2.1
      have hgc : (goodOf f.recs).length ≤ cr := Nat.le_trans (goodOf_le _) hcr
      clear hX Ho P0 P1 P2 Hrr HB1
      generalize hgg : goodOf f.recs = gs at HG hgm hgc Hth
      clear hgg
      have HB2 := Lib.hid hB2
      go_wp2
      go_loopw [3, 24] (fun o j wx => ∃ m : Nat, m ≤ gs.length ∧ j = .int .i64 m ∧ Below w1.heap.size w1 wx ∧ Hid (Own kNews 26 wx w1.heap.size o (thereFrom d.files (d.list.take k) ++ (gs.take m).map (·.news)))) (fun _ j _ => gs.length - (intOf j).toNat)
      case atStart => exact ⟨0, Nat.zero_le _, rfl, HB2.out, Lib.hid (by simpa using Ho2.out)⟩
      case round =>
        obtain ⟨m, hm', rfl, hBx, Hox⟩ := hrel
        by_cases hlm : m < gs.length
        · obtain ⟨r, ag, hdr, htk2, hget2, rfl, e0', e1, e2, e3, e4, e5, e6, e7⟩ := srec_at (Kd.C_below HG.out (below_step HB.out hBx)) m hlm
          have hts : (gs.take (m + 1)).map (·.news) = (gs.take m).map (·.news) ++ [r.news] := by rw [htk2, List.map_append]; rfl
          have hll : (thereFrom d.files (d.list.take k) ++ (gs.take m).map (·.news)).length + 1 ≤ (thereOf d).length := by
            have h1 := congrArg List.length Hth.out
            have h2 : ((gs.take m).map (·.news)).length = m := by rw [List.length_map, List.length_take, Nat.min_eq_left (Nat.le_of_lt hlm)]
            simp only [List.length_append, h2, List.length_map] at h1 ⊢
            omega
          have Hts := Lib.hid hts
          clear hdr htk2 hget2 hts
          go_wp2_with (at_builtin; refine Kd.R_append_rows kNews (w0 := w1) w1.heap.size rfl _ _ 34 26 (.agg #[.int .i64 0, .int .i64 0, .int .i64 0, .int .i64 0, .int .i64 0, .int .i64 0, .int .i64 0]) 56 rfl (by kernel_rfl) (by kernel_rfl) rfl (by decide) (by omega) _ (thereFrom d.files (d.list.take k) ++ (gs.take m).map (·.news)) [r.news] _ 1 1 (fun _ => True) (fun _ => False) rfl rfl (Kd.R_below Hox.out (below_alloc (below_alloc (Below.refl _ _) _) _)) (lit_row kNews _ _ r.news [.int .i64 r.news.do_, .int .i64 r.news.src, .int .i64 r.news.id, .int .i64 r.news.ver, .int .i64 r.news.body.at_, .int .i64 r.news.body.key, .int .i64 r.news.body.val] 26 (Cells.new2 _ _ _ _) (kNews_mk _ _)) (fun x cs h => by obtain rfl := kNews_open h; exact kNews_mkM _ _ _ x) (fun _ h => h.elim) (fun _ _ => trivial) (below_alloc (below_alloc hBx _) _) (below_alloc (below_alloc hBx _) _).size (by omega) ?_; intro v1 wy r1 r2 r3 r4)
          exact ⟨⟨m + 1, by omega, by go_num, r2, Lib.hid (by rw [Hts.out, ← List.append_assoc]; exact r1)⟩, by simp [intOf]; omega⟩
        · have hml : m = gs.length := by omega
          have Hox2 := Lib.hid (show Own kNews 26 _ w1.heap.size _ (thereFrom d.files (d.list.take (k + 1))) from by rw [Hth.out]; have := Hox.out; rwa [hml, List.take_length] at this)
          clear Hox hml
          go_wp2
          exact ⟨⟨k + 1, by omega, by go_num, hBx, Hox2⟩, by simp [intOf]; omega⟩
    · have hkl : k = d.list.length := by omega
      have hth : thereFrom d.files (d.list.take k) = thereOf d := by rw [hkl, List.take_length]; rfl
      rw [hth] at Ho
      go_wp2
      go_ret
      exact ⟨_, rfl, Kd.R_lower Ho.out HB.out.size, HB1.out⟩
end Go.Proofs.Ytfmojgdomficlaa
set_option linter.unusedVariables false
set_option linter.unusedSimpArgs false
/-! The reference of news: Formed. -/
namespace Go.Proofs.Ytfmojgdomficlaa
open Go.RowKit Go.Shelf Go.Proofs.YtfmojgdomficlaaW.PrintWords

set_option maxHeartbeats 400000 in
theorem r5_in (n low high : Int) (w : World) :
    Calls Try.prog 80 #[.int .i64 n, .int .i64 low, .int .i64 high] w fun e w' => e = .returned (.bool (inB n low high)) ∧ w = w' := by
  by_cases h1 : low ≤ n
  · by_cases h2 : n ≤ high
    all_goals
      go_enter Try.func80, Try.ntmps80
      go_wp2
      go_ret
      exact ⟨by simp [inB]; omega, rfl⟩
  · go_enter Try.func80, Try.ntmps80
    go_wp2
    go_ret
    exact ⟨by simp [inB]; omega, rfl⟩
set_option maxHeartbeats 400000 in
theorem r5_rec (r : Rec) (w : World) :
    Calls Try.prog 93 #[.agg #[.int .i64 r.at_, .int .i64 r.key, .int .i64 r.val]] w fun e w' => e = .returned (.bool (recB r)) ∧ Below w.heap.size w w' := by
  unfold recB
  cases h1 : inB r.at_ 0 200 <;> cases h2 : inB r.key (-1000000000) 1000000000 <;> cases h3 : inB r.val (-1000000000) 1000000000
  all_goals
    go_enter Try.func93, Try.ntmps93
    go_wp2_with (first | (go_at_call 80; refine (r5_in _ _ _ _).mono ?_; rintro e w' ⟨rfl, rfl⟩))
    go_ret
    exact ⟨rfl, (Below.refl _ _).alloc (Nat.le_refl _) _⟩
theorem gone_eq (n : News) : goneB n = (inB n.id 0 999 && (inB n.ver 1 99 && recEq n.body ⟨0, 0, 0⟩)) := by
  unfold goneB saidB
  cases h : recEq n.body ⟨0, 0, 0⟩
  · simp
  · have e : n.body = ⟨0, 0, 0⟩ := of_decide_eq_true h
    rw [e, show recB ⟨0, 0, 0⟩ = true from by decide]
    simp
set_option maxRecDepth 100000 in
set_option maxHeartbeats 4000000 in
theorem r5_good (n : News) (srcs : Int) (w : World) (h1 : 1 ≤ srcs) (h4 : srcs ≤ 4) :
    Calls Try.prog 74 #[.agg #[.int .i64 n.do_, .int .i64 n.src, .int .i64 n.id, .int .i64 n.ver, .int .i64 n.body.at_, .int .i64 n.body.key, .int .i64 n.body.val], .int .i64 srcs] w fun e w' => e = .returned (.bool (goodB n srcs)) ∧ Below w.heap.size w w' := by
  have hwr : IntKind.i64.wrap (srcs - 1) = srcs - 1 := IntWalk.i64_in _ (by omega)
  have hsrcs : 1 ≤ srcs ∧ srcs ≤ 4 := ⟨h1, h4⟩
  clear h1 h4
  cases h0 : inB n.src 0 (srcs - 1)
  · have hg : goodB n srcs = false := by simp [goodB, h0]
    go_enter Try.func74, Try.ntmps74
    go_wp2_with (first | (go_at_call 80; refine (r5_in _ _ _ _).mono ?_; rintro e w' ⟨rfl, rfl⟩))
    go_ret
    exact ⟨by rw [hg]; rfl, (by repeat (first | exact Below.refl _ _ | assumption | apply below_alloc | apply below_drew1 | apply pw_below_drewN | refine below_step ?_ (by assumption)))⟩
  by_cases d1 : n.do_ = 1
  · have e1 : (n.do_ == 1) = true := beq_iff_eq.2 d1
    have hg : goodB n srcs = (inB n.id 0 999 && (inB n.ver 1 99 && recB n.body)) := by rw [goodB_say d1, h0]; rfl
    have Hg := Lib.hid hg
    clear d1 hg
    cases k1 : inB n.id 0 999 <;> cases k2 : inB n.ver 1 99 <;> cases k3 : recB n.body
    all_goals
      go_enter Try.func74, Try.ntmps74
      go_wp2_with (first
        | (go_at_call 80; refine (r5_in _ _ _ _).mono ?_; rintro e w' ⟨rfl, rfl⟩)
        | (go_at_call 93; refine (r5_rec n.body _).mono ?_; rintro e w' ⟨rfl, hb⟩))
      go_ret
      exact ⟨by rw [Hg.out, k1, k2, k3]; rfl, (by repeat (first | exact Below.refl _ _ | assumption | apply below_alloc | apply below_drew1 | apply pw_below_drewN | refine below_step ?_ (by assumption)))⟩
  by_cases d2 : n.do_ = 2
  · have e1 : (n.do_ == 1) = false := by simp [d2]
    have e2 : (n.do_ == 2) = true := beq_iff_eq.2 d2
    have hg : goodB n srcs = (inB n.id 0 999 && (inB n.ver 1 99 && recEq n.body ⟨0, 0, 0⟩)) := by rw [goodB_gone d2, h0, gone_eq]; rfl
    have Hg := Lib.hid hg
    clear d1 d2 hg
    cases k1 : inB n.id 0 999 <;> cases k2 : inB n.ver 1 99 <;> cases k3 : recEq n.body ⟨0, 0, 0⟩
    all_goals
      go_enter Try.func74, Try.ntmps74
      go_wp2_with (first
        | (go_at_call 80; refine (r5_in _ _ _ _).mono ?_; rintro e w' ⟨rfl, rfl⟩))
      go_ret
      exact ⟨by rw [Hg.out, k1, k2, k3]; rfl, (by repeat (first | exact Below.refl _ _ | assumption | apply below_alloc | apply below_drew1 | apply pw_below_drewN | refine below_step ?_ (by assumption)))⟩
  by_cases d3 : n.do_ = 3
  · have e1 : (n.do_ == 1) = false := by simp [d3]
    have e2 : (n.do_ == 2) = false := by simp [d3]
    have e3 : (n.do_ == 3) = true := beq_iff_eq.2 d3
    have hg : goodB n srcs = ((n.id == 0) && ((n.ver == 0) && (recEq n.body ⟨n.body.at_, 0, 0⟩ && inB n.body.at_ 0 201))) := by rw [goodB_mark d3, h0]; rfl
    have Hg := Lib.hid hg
    clear d1 d2 d3 hg
    cases k1 : (n.id == 0) <;> cases k2 : (n.ver == 0) <;> cases k3 : recEq n.body ⟨n.body.at_, 0, 0⟩ <;> cases k4 : inB n.body.at_ 0 201
    all_goals
      go_enter Try.func74, Try.ntmps74
      go_wp2_with (first
        | (go_at_call 80; refine (r5_in _ _ _ _).mono ?_; rintro e w' ⟨rfl, rfl⟩))
      go_ret
      exact ⟨by rw [Hg.out, k1, k2, k3, k4]; rfl, (by repeat (first | exact Below.refl _ _ | assumption | apply below_alloc | apply below_drew1 | apply pw_below_drewN | refine below_step ?_ (by assumption)))⟩
  · have e1 : (n.do_ == 1) = false := by simpa using d1
    have e2 : (n.do_ == 2) = false := by simpa using d2
    have e3 : (n.do_ == 3) = false := by simpa using d3
    have hg : goodB n srcs = false := goodB_none d1 d2 d3
    clear d1 d2 d3
    go_enter Try.func74, Try.ntmps74
    go_wp2_with (first
        | (go_at_call 80; refine (r5_in _ _ _ _).mono ?_; rintro e w' ⟨rfl, rfl⟩))
    go_ret
    exact ⟨by rw [hg]; rfl, (by repeat (first | exact Below.refl _ _ | assumption | apply below_alloc | apply below_drew1 | apply pw_below_drewN | refine below_step ?_ (by assumption)))⟩
set_option maxRecDepth 100000 in
set_option maxHeartbeats 4000000 in
theorem r5_clashes (m n : News) (w : World) :
    Calls Try.prog 81 #[.agg #[.int .i64 m.do_, .int .i64 m.src, .int .i64 m.id, .int .i64 m.ver, .int .i64 m.body.at_, .int .i64 m.body.key, .int .i64 m.body.val], .agg #[.int .i64 n.do_, .int .i64 n.src, .int .i64 n.id, .int .i64 n.ver, .int .i64 n.body.at_, .int .i64 n.body.key, .int .i64 n.body.val]] w fun e w' => e = .returned (.bool (clashB m n)) ∧ Below w.heap.size w w' := by
  have hc : clashB m n = ((m.do_ != 3) && ((n.do_ != 3) && ((m.src == n.src) && ((m.id == n.id) && ((m.ver == n.ver) && !newsEq m n))))) := rfl
  have Hc := Lib.hid hc
  clear hc
  cases k1 : (m.do_ != 3)
  · go_enter Try.func81, Try.ntmps81
    go_wp2
    go_ret
    exact ⟨by rw [Hc.out, k1]; rfl, (by repeat (first | exact Below.refl _ _ | assumption | apply below_alloc | apply below_drew1 | apply pw_below_drewN | refine below_step ?_ (by assumption)))⟩
  cases k2 : (n.do_ != 3)
  · go_enter Try.func81, Try.ntmps81
    go_wp2
    go_ret
    exact ⟨by rw [Hc.out, k1, k2]; rfl, (by repeat (first | exact Below.refl _ _ | assumption | apply below_alloc | apply below_drew1 | apply pw_below_drewN | refine below_step ?_ (by assumption)))⟩
  cases k3 : (m.src == n.src)
  · go_enter Try.func81, Try.ntmps81
    go_wp2
    go_ret
    exact ⟨by rw [Hc.out, k1, k2, k3]; rfl, (by repeat (first | exact Below.refl _ _ | assumption | apply below_alloc | apply below_drew1 | apply pw_below_drewN | refine below_step ?_ (by assumption)))⟩
  cases k4 : (m.id == n.id)
  · go_enter Try.func81, Try.ntmps81
    go_wp2
    go_ret
    exact ⟨by rw [Hc.out, k1, k2, k3, k4]; rfl, (by repeat (first | exact Below.refl _ _ | assumption | apply below_alloc | apply below_drew1 | apply pw_below_drewN | refine below_step ?_ (by assumption)))⟩
  cases k5 : (m.ver == n.ver)
  · go_enter Try.func81, Try.ntmps81
    go_wp2
    go_ret
    exact ⟨by rw [Hc.out, k1, k2, k3, k4, k5]; rfl, (by repeat (first | exact Below.refl _ _ | assumption | apply below_alloc | apply below_drew1 | apply pw_below_drewN | refine below_step ?_ (by assumption)))⟩
  cases k6 : newsEq m n
  all_goals
    go_enter Try.func81, Try.ntmps81
    go_wp2
    go_ret
    exact ⟨by rw [Hc.out, k1, k2, k3, k4, k5, k6]; rfl, (by repeat (first | exact Below.refl _ _ | assumption | apply below_alloc | apply below_drew1 | apply pw_below_drewN | refine below_step ?_ (by assumption)))⟩
end Go.Proofs.Ytfmojgdomficlaa
set_option linter.unusedVariables false
set_option linter.unusedSimpArgs false
/-! The reference of news: plain, clash, Formed. -/
namespace Go.Proofs.Ytfmojgdomficlaa
open Go.RowKit Go.Shelf Go.Proofs.YtfmojgdomficlaaW.PrintWords

set_option maxRecDepth 100000 in
set_option maxHeartbeats 4000000 in
theorem r5_plain (l : List News) (A : Option Addr) (c : Nat) (srcs : Int) (w : World) (hr : Kd.C kNews w A l.length l) (hc : l.length ≤ c) :
    Calls Try.prog 56 #[.slice A l.length c, .int .i64 srcs] w fun e w' => e = .returned (.bool (plainB l srcs)) ∧ Below w.heap.size w w' := by
  have hm : l.length ≤ 9223372036854775807 := hr.2.1
  have Hr := Lib.hid hr
  clear hr
  cases h1 : inB srcs 1 4
  · have hp : plainB l srcs = false := by simp [plainB, h1]
    go_enter Try.func56, Try.ntmps56
    go_wp2_with (first | (go_at_call 80; refine (r5_in _ _ _ _).mono ?_; rintro e w' ⟨rfl, rfl⟩))
    go_ret
    exact ⟨by rw [hp]; rfl, Below.refl _ _⟩
  have hs : 1 ≤ srcs ∧ srcs ≤ 4 := by simpa [inB] using h1
  by_cases h6 : l.length ≤ 60
  · have hb6 : decide ((60 : Int) < l.length) = false := by simp; omega
    have hp : plainB l srcs = !(l.any fun n => !goodB n srcs) := by simp [plainB, h1, h6]
    have Hp := Lib.hid hp
    clear hp
    go_enter Try.func56, Try.ntmps56
    go_wp2_with (first | (go_at_call 80; refine (r5_in _ _ _ _).mono ?_; rintro e w' ⟨rfl, rfl⟩))
    go_loopw [5] (fun i wr => ∃ k : Nat, k ≤ l.length ∧ i = .int .i64 k ∧ Below w.heap.size w wr ∧ Hid ((l.any fun n => !goodB n srcs) = ((l.drop k).any fun n => !goodB n srcs))) (fun i _ => l.length - (intOf i).toNat)
    case atStart => exact ⟨0, Nat.zero_le _, rfl, Below.refl _ _, Lib.hid rfl⟩
    case round =>
      obtain ⟨k, hk, rfl, hB, Hq⟩ := hrel
      by_cases hlt : k < l.length
      · obtain ⟨n, ad, hd, htk, hget, rfl, e0, e1, e2, e3, e4, e5, e6⟩ := news_at (Kd.C_below Hr.out hB) k hlt
        have Hst := Lib.hid (show (l.any fun n => !goodB n srcs) = (!goodB n srcs || ((l.drop (k + 1)).any fun n => !goodB n srcs)) by rw [Hq.out, hd, List.any_cons])
        clear hd htk hget Hq
        cases hg : goodB n srcs
        · have Hg := Lib.hid hg
          clear hg
          go_wp2_with (first | (go_at_call 74; (with_reducible refine (r5_good n srcs _ hs.1 hs.2).mono ?_); rintro e w2 ⟨rfl, hb2⟩; rw [Hg.out]))
          go_ret
          exact ⟨by rw [Hp.out, Hst.out, Hg.out]; rfl, below_step hB hb2⟩
        · have Hg := Lib.hid hg
          clear hg
          go_wp2_with (first | (go_at_call 74; (with_reducible refine (r5_good n srcs _ hs.1 hs.2).mono ?_); rintro e w2 ⟨rfl, hb2⟩; rw [Hg.out]))
          exact ⟨⟨k + 1, by omega, by go_num, below_step hB hb2, Lib.hid (by rw [Hst.out, Hg.out]; rfl)⟩, by simp [intOf]; omega⟩
      · have hkl : k = l.length := by omega
        have Hend := Lib.hid (show (l.any fun n => !goodB n srcs) = false by rw [Hq.out, hkl, List.drop_of_length_le (Nat.le_refl _)]; rfl)
        clear hkl
        go_wp2
        go_ret
        exact ⟨by rw [Hp.out, Hend.out]; rfl, hB⟩
  · have hb6 : decide ((60 : Int) < l.length) = true := by simp; omega
    have hp : plainB l srcs = false := by simp [plainB, h6]
    go_enter Try.func56, Try.ntmps56
    go_wp2_with (first | (go_at_call 80; refine (r5_in _ _ _ _).mono ?_; rintro e w' ⟨rfl, rfl⟩))
    go_ret
    exact ⟨by rw [hp]; rfl, Below.refl _ _⟩
theorem noClash_snoc {l : List News} {n : News} (h : NoClash l) (hn : ∀ x ∈ l, clashB x n = false) : NoClash (l ++ [n]) := by
  intro x hx y hy
  rcases List.mem_append.1 hx with hx | hx
  · rcases List.mem_append.1 hy with hy | hy
    · exact h x hx y hy
    · rw [List.mem_singleton.1 hy]; exact hn x hx
  · rw [List.mem_singleton.1 hx]
    rcases List.mem_append.1 hy with hy | hy
    · rw [clashB_symm]; exact hn y hy
    · rw [List.mem_singleton.1 hy]; exact clashB_self n
set_option maxRecDepth 100000 in
set_option maxHeartbeats 4000000 in
theorem r5_clash (l : List News) (A : Option Addr) (c : Nat) (w : World) (hr : Kd.C kNews w A l.length l) (hc : l.length ≤ c) :
    Calls Try.prog 57 #[.slice A l.length c] w fun e w' => ∃ i k b, e = .returned (.tuple #[.int .i64 i, .int .i64 k, .bool b]) ∧ (b = false ↔ NoClash l) ∧ Below w.heap.size w w' := by
  have hm : l.length ≤ 9223372036854775807 := hr.2.1
  have Hr := Lib.hid hr
  clear hr
  go_enter Try.func57, Try.ntmps57
  go_wp2
  go_loopw [5] (fun i wr => ∃ k : Nat, k ≤ l.length ∧ i = .int .i64 k ∧ Below w.heap.size w wr ∧ Hid (NoClash (l.take k))) (fun i _ => l.length - (intOf i).toNat)
  case atStart => exact ⟨0, Nat.zero_le _, rfl, Below.refl _ _, Lib.hid (by intro x hx; simp at hx)⟩
  case round =>
    obtain ⟨k, hk, rfl, hB, Hq⟩ := hrel
    by_cases hlt : k < l.length
    · obtain ⟨n, ad, hd, htk, hget, rfl, e0, e1, e2, e3, e4, e5, e6⟩ := news_at Hr.out k hlt
      have Htk := Lib.hid htk
      have Hget := Lib.hid hget
      have E0 := Lib.hid e0
      have E1 := Lib.hid e1
      have E2 := Lib.hid e2
      have E3 := Lib.hid e3
      have E4 := Lib.hid e4
      have E5 := Lib.hid e5
      have E6 := Lib.hid e6
      clear hd htk hget e0 e1 e2 e3 e4 e5 e6
      go_wp2
      go_loopw [6] (fun i wx => ∃ j : Nat, j ≤ k ∧ i = .int .i64 j ∧ Below w.heap.size w wx ∧ Hid (∀ x ∈ l.take j, clashB x n = false)) (fun i _ => k - (intOf i).toNat)
      case atStart => exact ⟨0, Nat.zero_le _, rfl, hB, Lib.hid (by intro x hx; simp at hx)⟩
      case round =>
        obtain ⟨j, hj, rfl, hBx, Hj⟩ := hrel
        by_cases hjk : j < k
        · obtain ⟨m, ad', hd, htk, hget, e', f0, f1, f2, f3, f4, f5, f6⟩ := news_at Hr.out j (by omega)
          cases e'
          have Htj := Lib.hid htk
          have Hgj := Lib.hid hget
          have F0 := Lib.hid f0
          have F1 := Lib.hid f1
          have F2 := Lib.hid f2
          have F3 := Lib.hid f3
          have F4 := Lib.hid f4
          have F5 := Lib.hid f5
          have F6 := Lib.hid f6
          clear hd htk hget f0 f1 f2 f3 f4 f5 f6
          have hjl : j < l.length := by omega
          go_upto_region 7 with fail
          refine wp_region_flow [.free 0, .free 1, .free 2, .calm 3, .free 4, .free 5, .free 6, .calm 7, .calm 8] (Below wr.heap.size wr) (Below wr.heap.size wr) (stable_below _ _ (Nat.le_refl _)) (fun _ h => h) (by kernel_rfl) (by kernel_rfl) (below_drew1 (Below.refl _ _)) ?_
          simp only [pickEnts, pickF, List.getElem?_cons_succ, List.getElem?_cons_zero, List.filterMap_cons, List.filterMap_nil, Option.map_some]
          repeat ((first | refine flow_calm (fun K hK => ?_) | refine flow_free (fun K hK => ?_) | refine float_calm (fun K hK => ?_) | refine float_free (fun K hK => ?_)); go_simp; first | (refine hK _ ?_; clear hK K) | (apply Exists.intro; (refine ⟨fun X => ?_, hK _ ?_⟩); (first | (intro hC; rfl) | rfl | (intro hC; have hbw := below_step hBx hC.out; have x0 := cell_keep hbw E0.out; have x1 := cell_keep hbw E1.out; have x2 := cell_keep hbw E2.out; have x3 := cell_keep hbw E3.out; have x4 := cell_keep hbw E4.out; have x5 := cell_keep hbw E5.out; have x6 := cell_keep hbw E6.out; have y0 := cell_keep hbw F0.out; have y1 := cell_keep hbw F1.out; have y2 := cell_keep hbw F2.out; have y3 := cell_keep hbw F3.out; have y4 := cell_keep hbw F4.out; have y5 := cell_keep hbw F5.out; have y6 := cell_keep hbw F6.out; go_simp; done) | (intro hC; have hbw := below_step hBx hC.out; have x0 := cell_keep hbw E0.out; have x1 := cell_keep hbw E1.out; have x2 := cell_keep hbw E2.out; have x3 := cell_keep hbw E3.out; have x4 := cell_keep hbw E4.out; have x5 := cell_keep hbw E5.out; have x6 := cell_keep hbw E6.out; have y0 := cell_keep hbw F0.out; have y1 := cell_keep hbw F1.out; have y2 := cell_keep hbw F2.out; have y3 := cell_keep hbw F3.out; have y4 := cell_keep hbw F4.out; have y5 := cell_keep hbw F5.out; have y6 := cell_keep hbw F6.out; go_simp; rfl) | (intro hC; (with_reducible refine (r5_clashes m n _).mono ?_); rintro e w' ⟨rfl, hb⟩; exact ⟨rfl, hb⟩)); clear hK K))
          refine flow_nil ?_
          intro w3 hX
          have hb3 := below_step hBx hX.out
          clear hX
          cases hcl : clashB m n
          · have Hcl := Lib.hid hcl
            clear hcl
            go_wp2
            exact ⟨⟨j + 1, by omega, by go_num, hb3, Lib.hid (by
              intro x hx
              rw [Htj.out] at hx
              rcases List.mem_append.1 hx with hx | hx
              · exact Hj.out x hx
              · rw [List.mem_singleton.1 hx]; exact Hcl.out)⟩, by simp [intOf]; omega⟩
          · have Hcl := Lib.hid hcl
            clear hcl
            go_wp2
            refine bodyPost_ret (v := .tuple #[.int .i64 j, .int .i64 k, .bool true]) (by simp [results, Try.results57, go_sem]) rfl ?_
            refine ⟨_, _, _, rfl, ⟨fun h => (by cases h), fun h => ?_⟩, hb3⟩
            have := h m (List.mem_of_getElem? Hgj.out) n (List.mem_of_getElem? Hget.out)
            rw [Hcl.out] at this
            cases this
        · have hjk' : j = k := by omega
          have Hn := Lib.hid (show NoClash (l.take (k + 1)) by
            rw [Htk.out]
            exact noClash_snoc Hq.out (by rw [← hjk']; exact Hj.out))
          clear hjk' Hj
          go_wp2
          exact ⟨⟨k + 1, by omega, by go_num, hBx, Hn⟩, by simp [intOf]; omega⟩
    · have hkl : k = l.length := by omega
      have Hn := Lib.hid (show NoClash l by have := Hq.out; rwa [hkl, List.take_length] at this)
      clear hkl Hq
      go_wp2
      refine bodyPost_ret (v := .tuple #[.int .i64 0, .int .i64 0, .bool false]) (by simp [results, Try.results57, go_sem]) rfl ?_
      exact ⟨_, _, _, rfl, ⟨fun _ => Hn.out, fun _ => rfl⟩, hB⟩
set_option maxRecDepth 100000 in
set_option maxHeartbeats 4000000 in
theorem ref_Formed (l : List News) (A : Option Addr) (c : Nat) (srcs : Int) (w : World) (hr : Kd.C kNews w A l.length l) (hc : l.length ≤ c) :
    Calls Try.prog 32 #[.slice A l.length c, .int .i64 srcs] w fun e w' => e = .returned (.bool (formedB l srcs)) ∧ Below w.heap.size w w' := by
  have Hr := Lib.hid hr
  clear hr
  cases hp : plainB l srcs
  · have hf : formedB l srcs = false := by simp [formedB, hp]
    have Hp := Lib.hid hp
    clear hp
    go_enter Try.func32, Try.ntmps32
    go_wp2_with (first | (go_at_call 56; (with_reducible refine (r5_plain l A c srcs _ Hr.out hc).mono ?_); rintro e w2 ⟨rfl, hb2⟩; rw [Hp.out]))
    go_ret
    exact ⟨by rw [hf]; rfl, hb2⟩
  · have hf : formedB l srcs = !(clashOf l).2.2 := by simp [formedB, hp]
    have Hf := Lib.hid hf
    have Hp := Lib.hid hp
    clear hp hf
    go_enter Try.func32, Try.ntmps32
    go_wp2_with (first
      | (go_at_call 56; (with_reducible refine (r5_plain l A c srcs _ Hr.out hc).mono ?_); rintro e w2 ⟨rfl, hb2⟩; rw [Hp.out])
      | (go_at_call 57; (with_reducible refine (r5_clash l A c _ (Kd.C_below Hr.out hb2) hc).mono ?_); rintro e w3 ⟨i, k, b, rfl, hb, hb3⟩))
    go_ret
    refine ⟨?_, below_step hb2 hb3⟩
    have : b = (clashOf l).2.2 := by
      have h1 := hb.trans (clashOf_iff l).symm
      cases b <;> cases h2 : (clashOf l).2.2 <;> simp [h2] at h1 ⊢
    rw [Hf.out, ← this]
    rfl
end Go.Proofs.Ytfmojgdomficlaa
set_option linter.unusedVariables false
set_option linter.unusedSimpArgs false
/-! The reference's Same, of one device that lies in memory twice. -/
namespace Go.Proofs.Ytfmojgdomficlaa
open Go.RowKit Go.Shelf Go.Proofs.YtfmojgdomficlaaW.PrintWords

def segRecEq (a b : SRec) : Bool := decide (a = b)
theorem eqSegRec (d : Nat) (w : World) (x0 y0 : Int) (x1 y1 : Int) (x2 y2 : Int) (x3 y3 : Int) (x4 y4 : Int) (x5 y5 : Int) (x6 y6 : Int) (x7 y7 : Int) :
    (Op.equalIn (d + 4) 83 (.agg #[.int .i64 x0, .int .i64 x1, .int .i64 x2, .int .i64 x3, .int .i64 x4, .int .i64 x5, .int .i64 x6, .int .i64 x7]) (.agg #[.int .i64 y0, .int .i64 y1, .int .i64 y2, .int .i64 y3, .int .i64 y4, .int .i64 y5, .int .i64 y6, .int .i64 y7])).run Try.prog w = .ok (segRecEq ⟨⟨x0, x1, x2, x3, ⟨x4, x5, x6⟩⟩, x7⟩ ⟨⟨y0, y1, y2, y3, ⟨y4, y5, y6⟩⟩, y7⟩) w := by
  have e : segRecEq ⟨⟨x0, x1, x2, x3, ⟨x4, x5, x6⟩⟩, x7⟩ ⟨⟨y0, y1, y2, y3, ⟨y4, y5, y6⟩⟩, y7⟩ = (newsEq ⟨x0, x1, x2, x3, ⟨x4, x5, x6⟩⟩ ⟨y0, y1, y2, y3, ⟨y4, y5, y6⟩⟩ && (x7 == y7)) := by unfold segRecEq; rw [Bool.eq_iff_iff]; simp [newsEq]
  rw [e]; clear e
  refine eqA_of Try.underlying83 (by kernel_rfl) ?_
  refine eqf_cons (by rfl) (by go_simp) (by go_simp) (eqNews (d + 0) w _ _ _ _ _ _ _ _ _ _ _ _ _ _) ?_
  exact eqf_last (by rfl) (by go_simp; rfl) (by go_simp; rfl) (by go_simp)

attribute [local go_sem high] eqSegRec
structure SameS (g1 g2 k : Nat) (f : SFile) (a1 a2 : Addr) (r1 r2 : Option Addr) (c1 c2 cf cl ef el : Nat) (Al Bl : Option Addr) (d : SDisk) (wr W : World) : Prop where
  mk :: (out : W.cell? ⟨g1, 0, none⟩ = some (.slice (some a1) d.files.length cf) ∧ W.cell? ⟨g2, 0, none⟩ = some (.slice (some a2) d.files.length ef) ∧ W.cell? (a1.add (k * 3)) = some (.int .i64 f.no) ∧ W.cell? ⟨(a1.add (k * 3)).block, (a1.add (k * 3)).off + 1, none⟩ = some (.slice r1 f.recs.length c1) ∧ W.cell? ⟨(a1.add (k * 3)).block, (a1.add (k * 3)).off + 2, none⟩ = some (.int .i64 f.safe) ∧ W.cell? (a2.add (k * 3)) = some (.int .i64 f.no) ∧ W.cell? ⟨(a2.add (k * 3)).block, (a2.add (k * 3)).off + 1, none⟩ = some (.slice r2 f.recs.length c2) ∧ W.cell? ⟨(a2.add (k * 3)).block, (a2.add (k * 3)).off + 2, none⟩ = some (.int .i64 f.safe) ∧ Below wr.heap.size wr W)
theorem SameS.of {g1 g2 k : Nat} {f : SFile} {a1 a2 : Addr} {r1 r2 : Option Addr} {c1 c2 cf cl ef el : Nat} {Al Bl : Option Addr} {d : SDisk} {wr W : World} (h : SameS g1 g2 k f a1 a2 r1 r2 c1 c2 cf cl ef el Al Bl d wr wr) (hb : Below wr.heap.size wr W) : W.cell? ⟨g1, 0, none⟩ = some (.slice (some a1) d.files.length cf) ∧ W.cell? ⟨g2, 0, none⟩ = some (.slice (some a2) d.files.length ef) ∧ W.cell? (a1.add (k * 3)) = some (.int .i64 f.no) ∧ W.cell? ⟨(a1.add (k * 3)).block, (a1.add (k * 3)).off + 1, none⟩ = some (.slice r1 f.recs.length c1) ∧ W.cell? ⟨(a1.add (k * 3)).block, (a1.add (k * 3)).off + 2, none⟩ = some (.int .i64 f.safe) ∧ W.cell? (a2.add (k * 3)) = some (.int .i64 f.no) ∧ W.cell? ⟨(a2.add (k * 3)).block, (a2.add (k * 3)).off + 1, none⟩ = some (.slice r2 f.recs.length c2) ∧ W.cell? ⟨(a2.add (k * 3)).block, (a2.add (k * 3)).off + 2, none⟩ = some (.int .i64 f.safe) ∧ Below wr.heap.size wr W := by
  obtain ⟨h1, h2, h3, h4, h5, h6, h7, h8, -⟩ := h.out
  exact ⟨cell_keep hb h1, cell_keep hb h2, cell_keep hb h3, cell_keep hb h4, cell_keep hb h5, cell_keep hb h6, cell_keep hb h7, cell_keep hb h8, hb⟩
theorem Below.setCell' {B : Nat} {w w' : World} {b i : Nat} {v : Value} (h : Below B w w') (hle : B ≤ b) : Below B w (w'.setCell ⟨b, i, none⟩ v) := h.setCell (p := ⟨b, i, none⟩) hle v
set_option maxRecDepth 100000 in
set_option maxHeartbeats 8000000 in
theorem ref_Same_self (d : SDisk) (Af Al Bf Bl : Option Addr) (cf cl ef el : Nat) (w : World) (hd : DRows w Af cf Al cl d) (hd2 : DRows w Bf ef Bl el d) :
    Calls Try.prog 21 #[.agg #[.slice Af d.files.length cf, .slice Al d.list.length cl], .agg #[.slice Bf d.files.length ef, .slice Bl d.list.length el]] w fun e w' => e = .returned (.bool true) ∧ Below w.heap.size w w' := by
  have hm : d.files.length ≤ 9223372036854775807 := hd.files.2.1
  have hm2 : d.list.length ≤ 9223372036854775807 := hd.list.2.1
  have k1 := hd.capf
  have k2 := hd.capl
  have k3 := hd2.capf
  have k4 := hd2.capl
  have Hd := Lib.hid hd
  have Hd2 := Lib.hid hd2
  clear hd hd2
  have z1 : ((d.files.length : Int) != d.files.length) = false := by simp
  have z2 : ((d.list.length : Int) != d.list.length) = false := by simp
  go_enter Try.func21, Try.ntmps21
  go_upto_region 3 with fail
  have HC := Lib.hid ((Cells.new w #[.slice Af d.files.length cf, .slice Al d.list.length cl] 33).later (below_alloc (Below.refl _ _) (.cells #[.slice Bf d.files.length ef, .slice Bl d.list.length el] 33)))
  have HC2 := Lib.hid (Cells.new2 w (.cells #[.slice Af d.files.length cf, .slice Al d.list.length cl] 33) #[.slice Bf d.files.length ef, .slice Bl d.list.length el] 33)
  have HB := Lib.hid (below_alloc (below_alloc (Below.refl w.heap.size w) (.cells #[.slice Af d.files.length cf, .slice Al d.list.length cl] 33)) (.cells #[.slice Bf d.files.length ef, .slice Bl d.list.length el] 33))
  generalize (w.alloc (.cells #[.slice Af d.files.length cf, .slice Al d.list.length cl] 33)).alloc (.cells #[.slice Bf d.files.length ef, .slice Bl d.list.length el] 33) = w1 at HC HC2 HB ⊢
  generalize w.heap.size + 1 = g2 at HC2 ⊢
  have q1 := HC.out.cell 1 _ rfl
  go_wp2
  clear q1
  go_loopw [29] (fun i wr => ∃ k : Nat, k ≤ d.list.length ∧ i = .int .i64 k ∧ Below w1.heap.size w1 wr) (fun i _ => d.list.length - (intOf i).toNat)
  case atStart => exact ⟨0, Nat.zero_le _, rfl, Below.refl _ _⟩
  case round =>
    obtain ⟨k, hk, rfl, hB⟩ := hrel
    by_cases hlt : k < d.list.length
    · obtain ⟨x, a1, -, -, hg1, rfl, e0⟩ := int_at (Kd.C_below Hd.out.list HB.out) k hlt
      obtain ⟨y, a2, -, -, hg2, rfl, e1⟩ := int_at (Kd.C_below Hd2.out.list HB.out) k hlt
      rw [hg1] at hg2
      obtain rfl := Option.some.inj hg2
      have z3 : (x != x) = false := by simp
      have E0 := Lib.hid e0
      have E1 := Lib.hid e1
      clear hg1 hg2 e0 e1
      go_upto_region 6 with fail
      refine wp_region_flow [.free 0, .calm 1, .free 2, .free 3, .calm 4, .free 5, .calm 6, .free 7, .free 8, .calm 9, .free 10] (Below wr.heap.size wr) (Below wr.heap.size wr) (stable_below _ _ (Nat.le_refl _)) (fun _ h => h) (by kernel_rfl) (by kernel_rfl) (below_drew1 (Below.refl _ _)) ?_
      simp only [pickEnts, pickF, List.getElem?_cons_succ, List.getElem?_cons_zero, List.filterMap_cons, List.filterMap_nil, Option.map_some]
      repeat ((first | refine flow_calm (fun K hK => ?_) | refine flow_free (fun K hK => ?_) | refine float_calm (fun K hK => ?_) | refine float_free (fun K hK => ?_)); go_simp; first | (refine hK _ ?_; clear hK K) | (apply Exists.intro; (refine ⟨fun X => ?_, hK _ ?_⟩); (first | (intro hC; rfl) | rfl | (intro hC; have hbw := below_step hB hC.out; have p1 := (HC.out.later hbw).cell 1 _ rfl; have p2 := (HC2.out.later hbw).cell 1 _ rfl; have x0 := cell_keep hbw E0.out; have x1 := cell_keep hbw E1.out; go_simp; done) | (intro hC; have hbw := below_step hB hC.out; have p1 := (HC.out.later hbw).cell 1 _ rfl; have p2 := (HC2.out.later hbw).cell 1 _ rfl; have x0 := cell_keep hbw E0.out; have x1 := cell_keep hbw E1.out; go_simp; rfl)); clear hK K))
      refine flow_nil ?_
      intro w2 hX
      have hb2 := below_step hB hX.out
      clear hX
      go_wp2
      exact ⟨⟨k + 1, by omega, by go_num, hb2⟩, by simp [intOf]; omega⟩
    · have HB1 := Lib.hid hB
      have q0 := (HC.out.later hB).cell 0 _ rfl
      go_upto_block 2 with fail
      clear q0 hk hlt
      have HCr := Lib.hid (HC.out.later hB)
      have HC2r := Lib.hid (HC2.out.later hB)
      have HBr := Lib.hid (below_step HB.out hB)
      clear hB HC HC2 HB HB1
      go_wp2
      go_loopw [47] (fun i wx => ∃ k : Nat, k ≤ d.files.length ∧ i = .int .i64 k ∧ Below wr.heap.size wr wx) (fun i _ => d.files.length - (intOf i).toNat)
      case atStart => exact ⟨0, Nat.zero_le _, rfl, Below.refl _ _⟩
      case round =>
        obtain ⟨k, hk, rfl, hB⟩ := hrel
        by_cases hlt : k < d.files.length
        · obtain ⟨f, a1, r1, c1, -, -, hg1, rfl, e0, e1, e2, hcr, hrr⟩ := sfile_at (Kd.C_below Hd.out.files (below_step HBr.out hB)) k hlt
          obtain ⟨f', a2, r2, c2, -, -, hg2, rfl, f0, f1, f2, hcr2, hrr2⟩ := sfile_at (Kd.C_below Hd2.out.files (below_step HBr.out hB)) k hlt
          rw [hg1] at hg2
          obtain rfl := Option.some.inj hg2
          have p0 := (HCr.out.later hB).cell 0 _ rfl
          have p1 := (HC2r.out.later hB).cell 0 _ rfl
          go_upto_region 12 with fail
          have HE := Lib.hid (show SameS w.heap.size g2 k f a1 a2 r1 r2 c1 c2 cf cl ef el Al Bl d wr wr from ⟨⟨p0, p1, e0, e1, e2, f0, f1, f2, Below.refl _ _⟩⟩)
          clear p0 p1 e0 e1 e2 f0 f1 f2
          go_cut [7, 8] (fun v7 v8 wc => ∃ b7 b8, v7 = .pointer (some ⟨b7, 0, none⟩) ∧ v8 = .pointer (some ⟨b8, 0, none⟩) ∧ Aside (Below wr.heap.size wr wc) ∧ Aside (Cells wc b7 #[.int .i64 f.no, .slice r1 f.recs.length c1, .int .i64 f.safe] 62) ∧ Aside (Cells wc b8 #[.int .i64 f.no, .slice r2 f.recs.length c2, .int .i64 f.safe] 62))
          case first =>
            obtain ⟨p0, p1, e0, e1, e2, f0, f1, f2, -⟩ := HE.out.out
            go_region_held3 (fun W => W.cell? ⟨w.heap.size, 0, none⟩ = some (.slice (some a1) d.files.length cf) ∧ W.cell? ⟨g2, 0, none⟩ = some (.slice (some a2) d.files.length ef) ∧ W.cell? (a1.add (k * 3)) = some (.int .i64 f.no) ∧ W.cell? ⟨(a1.add (k * 3)).block, (a1.add (k * 3)).off + 1, none⟩ = some (.slice r1 f.recs.length c1) ∧ W.cell? ⟨(a1.add (k * 3)).block, (a1.add (k * 3)).off + 2, none⟩ = some (.int .i64 f.safe) ∧ W.cell? (a2.add (k * 3)) = some (.int .i64 f.no) ∧ W.cell? ⟨(a2.add (k * 3)).block, (a2.add (k * 3)).off + 1, none⟩ = some (.slice r2 f.recs.length c2) ∧ W.cell? ⟨(a2.add (k * 3)).block, (a2.add (k * 3)).off + 2, none⟩ = some (.int .i64 f.safe) ∧ Below wr.heap.size wr W)
              (first | assumption | exact HE.out.of (Below.refl _ _) | exact HE.out.of (below_drew1 (Below.refl _ _)) | exact HE.out.of (by go_split_ands; repeat (first | exact Below.refl _ _ | assumption | apply below_alloc | apply below_drew1 | (apply Below.setCell'; (first | omega | (simp; omega) | (simp at *; omega))))))
              (first | fail)
            all_goals go_wp2
            all_goals go_meet
            all_goals (case rel => first
              | exact ⟨_, _, rfl, rfl, (by repeat (first | exact Below.refl _ _ | assumption | apply below_alloc | apply below_drew1 | apply pw_below_drewN | refine below_step ?_ (by assumption))), ((Cells.new wr _ _).later (below_alloc (Below.refl _ _) _)).later (below_drew1 (Below.refl _ _)), (Cells.new2 wr _ _ _).later (below_drew1 (Below.refl _ _))⟩
              | exact ⟨_, _, rfl, rfl, (by repeat (first | exact Below.refl _ _ | assumption | apply below_alloc | apply below_drew1 | apply pw_below_drewN | refine below_step ?_ (by assumption))), (Cells.new2 wr _ _ _).later (below_drew1 (Below.refl _ _)), ((Cells.new wr _ _).later (below_alloc (Below.refl _ _) _)).later (below_drew1 (Below.refl _ _))⟩)
          case rest =>
            obtain ⟨b7, b8, rfl, rfl, hbc, hc7, hc8⟩ := hcut
            have HC7 := Lib.hid hc7.out
            have HC8 := Lib.hid hc8.out
            have HBc := Lib.hid (below_step hB hbc.out)
            have HR1 := Lib.hid (Kd.C_below hrr hbc.out)
            have HR2 := Lib.hid (Kd.C_below hrr2 hbc.out)
            have hmr : f.recs.length ≤ 9223372036854775807 := hrr.2.1
            clear hc7 hc8 hbc hrr hrr2 HE hB hg1
            have x0 := HC7.out.cell 0 _ rfl
            have x1 := HC7.out.cell 1 _ rfl
            have x2 := HC7.out.cell 2 _ rfl
            have y0 := HC8.out.cell 0 _ rfl
            have y1 := HC8.out.cell 1 _ rfl
            have y2 := HC8.out.cell 2 _ rfl
            have z3 : (f.no != f.no) = false := by simp
            have z4 : (f.safe != f.safe) = false := by simp
            have z5 : ((f.recs.length : Int) != f.recs.length) = false := by simp
            go_upto_block 4 with fail
            clear x0 x1 x2 y0 y1 y2
            go_wp2
            go_loopw [84] (fun i wy => ∃ m : Nat, m ≤ f.recs.length ∧ i = .int .i64 m ∧ Below wc.heap.size wc wy) (fun i _ => f.recs.length - (intOf i).toNat)
            case atStart => exact ⟨0, Nat.zero_le _, rfl, Below.refl _ _⟩
            case round =>
              obtain ⟨m, hm', rfl, hBy⟩ := hrel
              by_cases hlm : m < f.recs.length
              · obtain ⟨r, g1, -, -, hg1, rfl, e0, e1, e2, e3, e4, e5, e6, e7⟩ := srec_at HR1.out m hlm
                obtain ⟨r', g3, -, -, hg2, rfl, f0, f1, f2, f3, f4, f5, f6, f7⟩ := srec_at HR2.out m hlm
                rw [hg1] at hg2
                obtain rfl := Option.some.inj hg2
                have HE1 := Lib.hid (show _ ∧ _ ∧ _ ∧ _ ∧ _ ∧ _ ∧ _ ∧ _ from ⟨e0, e1, e2, e3, e4, e5, e6, e7⟩)
                have HE2 := Lib.hid (show _ ∧ _ ∧ _ ∧ _ ∧ _ ∧ _ ∧ _ ∧ _ from ⟨f0, f1, f2, f3, f4, f5, f6, f7⟩)
                clear hg1 hg2 e0 e1 e2 e3 e4 e5 e6 e7 f0 f1 f2 f3 f4 f5 f6 f7
                have z6 : segRecEq ⟨⟨r.news.do_, r.news.src, r.news.id, r.news.ver, ⟨r.news.body.at_, r.news.body.key, r.news.body.val⟩⟩, r.sum⟩ ⟨⟨r.news.do_, r.news.src, r.news.id, r.news.ver, ⟨r.news.body.at_, r.news.body.key, r.news.body.val⟩⟩, r.sum⟩ = true := decide_eq_true rfl
                go_upto_region 18 with fail
                refine wp_region_flow [.free 0, .calm 1, .free 2, .free 3, .calm 4, .free 5, .calm 6, .free 7, .free 8, .calm 9, .free 10] (Below wr.heap.size wr) (Below wr.heap.size wr) (stable_below _ _ (Nat.le_refl _)) (fun _ h => h) (by kernel_rfl) (by kernel_rfl) (below_drew1 (Below.refl _ _)) ?_
                simp only [pickEnts, pickF, List.getElem?_cons_succ, List.getElem?_cons_zero, List.filterMap_cons, List.filterMap_nil, Option.map_some]
                repeat ((first | refine flow_calm (fun K hK => ?_) | refine flow_free (fun K hK => ?_) | refine float_calm (fun K hK => ?_) | refine float_free (fun K hK => ?_)); go_simp; first | (refine hK _ ?_; clear hK K) | (apply Exists.intro; (refine ⟨fun X => ?_, hK _ ?_⟩); (first | (intro hC; rfl) | rfl | (intro hC; have hbw := below_step hBy hC.out; have p1 := (HC7.out.later hbw).cell 1 _ rfl; have p2 := (HC8.out.later hbw).cell 1 _ rfl; obtain ⟨e0, e1, e2, e3, e4, e5, e6, e7⟩ := HE1.out; obtain ⟨f0, f1, f2, f3, f4, f5, f6, f7⟩ := HE2.out; have e0 := cell_keep hbw e0; have e1 := cell_keep hbw e1; have e2 := cell_keep hbw e2; have e3 := cell_keep hbw e3; have e4 := cell_keep hbw e4; have e5 := cell_keep hbw e5; have e6 := cell_keep hbw e6; have e7 := cell_keep hbw e7; have f0 := cell_keep hbw f0; have f1 := cell_keep hbw f1; have f2 := cell_keep hbw f2; have f3 := cell_keep hbw f3; have f4 := cell_keep hbw f4; have f5 := cell_keep hbw f5; have f6 := cell_keep hbw f6; have f7 := cell_keep hbw f7; go_simp; done) | (intro hC; have hbw := below_step hBy hC.out; have p1 := (HC7.out.later hbw).cell 1 _ rfl; have p2 := (HC8.out.later hbw).cell 1 _ rfl; obtain ⟨e0, e1, e2, e3, e4, e5, e6, e7⟩ := HE1.out; obtain ⟨f0, f1, f2, f3, f4, f5, f6, f7⟩ := HE2.out; have e0 := cell_keep hbw e0; have e1 := cell_keep hbw e1; have e2 := cell_keep hbw e2; have e3 := cell_keep hbw e3; have e4 := cell_keep hbw e4; have e5 := cell_keep hbw e5; have e6 := cell_keep hbw e6; have e7 := cell_keep hbw e7; have f0 := cell_keep hbw f0; have f1 := cell_keep hbw f1; have f2 := cell_keep hbw f2; have f3 := cell_keep hbw f3; have f4 := cell_keep hbw f4; have f5 := cell_keep hbw f5; have f6 := cell_keep hbw f6; have f7 := cell_keep hbw f7; go_simp; rfl)); clear hK K))
                refine flow_nil ?_
                intro w5 hX
                have hb5 := below_step hBy hX.out
                clear hX
                go_wp2
                exact ⟨⟨m + 1, by omega, by go_num, hb5⟩, by simp [intOf]; omega⟩
              · go_wp2
                exact ⟨⟨k + 1, by omega, by go_num, below_step HBc.out hBy⟩, by simp [intOf]; omega⟩
        · go_wp2
          go_ret
          exact ⟨rfl, below_step HBr.out hB⟩
end Go.Proofs.Ytfmojgdomficlaa
