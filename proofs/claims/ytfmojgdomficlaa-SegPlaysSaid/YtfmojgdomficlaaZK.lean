/-
  Texts of one hand, laid together: RefSum, RefA, OpenN, OpenB, OpenD, SegClone.
-/
import Derived.Test.YtfmojgdomficlaaZB
import Derived.Test.YtfmojgdomficlaaZI
import Derived.Test.YtfmojgdomficlaaZA
import Derived.Deep.Slices
import Derived.SizedLaws
import Derived.ChangeSlices
import Derived.Test.YtfmojgdomficlaaZJ
import Derived.Laws.Cover3
set_option linter.unusedVariables false
set_option linter.unusedSimpArgs false
/-! The sum of one of the news: the reference. -/
namespace Go.Proofs.Ytfmojgdomficlaa
open Go.RowKit Go.Proofs.YtfmojgdomficlaaW.PrintWords

set_option maxRecDepth 100000 in
set_option maxHeartbeats 2000000 in
theorem ref_Sum (n : News) (w : World) : Calls Try.prog 12 #[.agg #[.int .i64 n.do_, .int .i64 n.src, .int .i64 n.id, .int .i64 n.ver, .int .i64 n.body.at_, .int .i64 n.body.key, .int .i64 n.body.val]] w fun e w' => e = .returned (.int .i64 (segSum n)) ∧ Below w.heap.size w w' := by
  have hb := segPart_bd n
  have Hb := Lib.hid hb
  have hsucc : ∀ k x, (segNums n)[k]? = some x → ((segNums n).take (k + 1)).foldl segStep 7 = segStep (((segNums n).take k).foldl segStep 7) x := by
    intro k x hx
    obtain ⟨hk, e⟩ := List.getElem?_eq_some_iff.1 hx
    rw [List.take_succ_eq_append_getElem hk, e, List.foldl_append]
    rfl
  have Hs := Lib.hid hsucc
  clear hb hsucc
  go_enter Try.func12, Try.ntmps12
  go_wp2
  go_loop [3, 25] (fun h i => ∃ k : Nat, k ≤ 7 ∧ i = .int .i64 k ∧ h = .int .i64 (((segNums n).take k).foldl segStep 7)) (fun _ i => 7 - (intOf i).toNat)
  case atStart => exact ⟨0, by omega, rfl, rfl⟩
  case round =>
    obtain ⟨k, hk, rfl, rfl⟩ := hrel
    obtain ⟨h0, h1⟩ := Hb.out k
    obtain rfl | rfl | rfl | rfl | rfl | rfl | rfl | rfl : k = 0 ∨ k = 1 ∨ k = 2 ∨ k = 3 ∨ k = 4 ∨ k = 5 ∨ k = 6 ∨ k = 7 := by omega
    · have hs := Lib.hid (Hs.out 0 n.do_ rfl)
      have ht := tmod_bd n.do_
      generalize ((segNums n).take 0).foldl segStep 7 = h at *
      go_wp2
      exact ⟨⟨0 + 1, by omega, by go_num, by rw [hs.out]; rfl⟩, by simp [intOf]⟩
    · have hs := Lib.hid (Hs.out 1 n.src rfl)
      have ht := tmod_bd n.src
      generalize ((segNums n).take 1).foldl segStep 7 = h at *
      go_wp2
      exact ⟨⟨1 + 1, by omega, by go_num, by rw [hs.out]; rfl⟩, by simp [intOf]⟩
    · have hs := Lib.hid (Hs.out 2 n.id rfl)
      have ht := tmod_bd n.id
      generalize ((segNums n).take 2).foldl segStep 7 = h at *
      go_wp2
      exact ⟨⟨2 + 1, by omega, by go_num, by rw [hs.out]; rfl⟩, by simp [intOf]⟩
    · have hs := Lib.hid (Hs.out 3 n.ver rfl)
      have ht := tmod_bd n.ver
      generalize ((segNums n).take 3).foldl segStep 7 = h at *
      go_wp2
      exact ⟨⟨3 + 1, by omega, by go_num, by rw [hs.out]; rfl⟩, by simp [intOf]⟩
    · have hs := Lib.hid (Hs.out 4 n.body.at_ rfl)
      have ht := tmod_bd n.body.at_
      generalize ((segNums n).take 4).foldl segStep 7 = h at *
      go_wp2
      exact ⟨⟨4 + 1, by omega, by go_num, by rw [hs.out]; rfl⟩, by simp [intOf]⟩
    · have hs := Lib.hid (Hs.out 5 n.body.key rfl)
      have ht := tmod_bd n.body.key
      generalize ((segNums n).take 5).foldl segStep 7 = h at *
      go_wp2
      exact ⟨⟨5 + 1, by omega, by go_num, by rw [hs.out]; rfl⟩, by simp [intOf]⟩
    · have hs := Lib.hid (Hs.out 6 n.body.val rfl)
      have ht := tmod_bd n.body.val
      generalize ((segNums n).take 6).foldl segStep 7 = h at *
      go_wp2
      exact ⟨⟨6 + 1, by omega, by go_num, by rw [hs.out]; rfl⟩, by simp [intOf]⟩
    · go_wp2
      go_ret
      exact ⟨rfl, (by repeat (first | exact Below.refl _ _ | assumption | apply below_alloc | apply below_drew1 | apply pw_below_drewN | refine below_step ?_ (by assumption)))⟩
end Go.Proofs.Ytfmojgdomficlaa
set_option linter.unusedVariables false
set_option linter.unusedSimpArgs false
/-! The reference: right, file, open, good. -/
namespace Go.Proofs.Ytfmojgdomficlaa
open Go.RowKit Go.Shelf Go.Proofs.YtfmojgdomficlaaW.PrintWords

set_option maxRecDepth 100000 in
set_option maxHeartbeats 2000000 in
theorem ref_right (r : SRec) (w : World) : Calls Try.prog 77 #[.agg #[.int .i64 r.news.do_, .int .i64 r.news.src, .int .i64 r.news.id, .int .i64 r.news.ver, .int .i64 r.news.body.at_, .int .i64 r.news.body.key, .int .i64 r.news.body.val, .int .i64 r.sum]] w fun e w' => e = .returned (.bool (rightB r)) ∧ Below w.heap.size w w' := by
  go_enter Try.func77, Try.ntmps77
  go_wp2
  have HC := Lib.hid (Cells.new w #[.int .i64 r.news.do_, .int .i64 r.news.src, .int .i64 r.news.id, .int .i64 r.news.ver, .int .i64 r.news.body.at_, .int .i64 r.news.body.key, .int .i64 r.news.body.val, .int .i64 r.sum] 83)
  have HB := Lib.hid (below_alloc (Below.refl w.heap.size w) (.cells #[.int .i64 r.news.do_, .int .i64 r.news.src, .int .i64 r.news.id, .int .i64 r.news.ver, .int .i64 r.news.body.at_, .int .i64 r.news.body.key, .int .i64 r.news.body.val, .int .i64 r.sum] 83))
  generalize w.alloc (.cells #[.int .i64 r.news.do_, .int .i64 r.news.src, .int .i64 r.news.id, .int .i64 r.news.ver, .int .i64 r.news.body.at_, .int .i64 r.news.body.key, .int .i64 r.news.body.val, .int .i64 r.sum] 83) = w1 at HC HB ⊢
  refine wp_region_flow [.free 0, .calm 1, .free 2, .calm 3, .calm 4, .free 5, .free 6] (Below w1.heap.size w1) (Below w1.heap.size w1) (stable_below _ _ (Nat.le_refl _)) (fun _ h => h) (by kernel_rfl) (by kernel_rfl) (below_drew1 (Below.refl _ _)) ?_
  simp only [pickEnts, pickF, List.getElem?_cons_succ, List.getElem?_cons_zero, List.filterMap_cons, List.filterMap_nil, Option.map_some]
  repeat ((first | refine flow_calm (fun K hK => ?_) | refine flow_free (fun K hK => ?_) | refine float_calm (fun K hK => ?_) | refine float_free (fun K hK => ?_)); go_simp; first | (refine hK _ ?_; clear hK K) | (apply Exists.intro; (refine ⟨fun X => ?_, hK _ ?_⟩); (first | (intro hC; rfl) | rfl | (intro hC; have q := HC.out.later hC.out; have q0 := q.cell 0 _ rfl; have q1 := q.cell 1 _ rfl; have q2 := q.cell 2 _ rfl; have q3 := q.cell 3 _ rfl; have q4 := q.cell 4 _ rfl; have q5 := q.cell 5 _ rfl; have q6 := q.cell 6 _ rfl; have q7 := q.cell 7 _ rfl; go_simp; done) | (intro hC; have q := HC.out.later hC.out; have q0 := q.cell 0 _ rfl; have q1 := q.cell 1 _ rfl; have q2 := q.cell 2 _ rfl; have q3 := q.cell 3 _ rfl; have q4 := q.cell 4 _ rfl; have q5 := q.cell 5 _ rfl; have q6 := q.cell 6 _ rfl; have q7 := q.cell 7 _ rfl; go_simp; rfl) | (intro hC; (with_reducible refine (ref_Sum r.news _).mono ?_); rintro e w' ⟨rfl, hb⟩; exact ⟨rfl, hb⟩)); clear hK K))
  refine flow_nil ?_
  intro w2 hX
  have hb2 := hX.out
  go_wp2
  go_ret
  exact ⟨rfl, below_step HB.out hb2⟩
set_option maxRecDepth 100000 in
set_option maxHeartbeats 2000000 in
theorem ref_file (d : SDisk) (Af Al : Option Addr) (cf cl : Nat) (no : Int) (w : World) (hd : DRows w Af cf Al cl d) :
    Calls Try.prog 60 #[.agg #[.slice Af d.files.length cf, .slice Al d.list.length cl], .int .i64 no] w fun e w' => e = .returned (.int .i64 (placeOf d.files no)) ∧ Below w.heap.size w w' := by
  obtain ⟨hf, hl, hcf, hcl⟩ := hd
  have hm : d.files.length ≤ 9223372036854775807 := hf.2.1
  have Hf := Lib.hid hf
  clear hf hl
  go_enter Try.func60, Try.ntmps60
  go_wp2
  go_loopw [10] (fun i wr => ∃ k : Nat, k ≤ d.files.length ∧ i = .int .i64 k ∧ Below w.heap.size w wr ∧ Hid (placeI no d.files 0 = placeI no (d.files.drop k) k)) (fun i _ => d.files.length - (intOf i).toNat)
  case atStart => exact ⟨0, Nat.zero_le _, rfl, (by repeat (first | exact Below.refl _ _ | assumption | apply below_alloc | apply below_drew1 | apply pw_below_drewN | refine below_step ?_ (by assumption))), Lib.hid rfl⟩
  case round =>
    obtain ⟨k, hk, rfl, hB, Hp⟩ := hrel
    by_cases hlt : k < d.files.length
    · obtain ⟨f, ad, Ar, cr, hd, htk, hget, rfl, e0, e1, e2, hcr, hrr⟩ := sfile_at (Kd.C_below Hf.out hB) k hlt
      have hst := Lib.hid (placeI_step no d.files k f hget)
      clear hd htk hget hrr
      by_cases hno : f.no = no
      · go_wp2
        go_ret
        refine ⟨?_, (by repeat (first | exact Below.refl _ _ | assumption | apply below_alloc | apply below_drew1 | apply pw_below_drewN | refine below_step ?_ (by assumption)))⟩
        simp only [placeOf, Hp.out, hst.out, if_pos hno]
        rfl
      · go_wp2
        exact ⟨⟨k + 1, by omega, by go_num, (by repeat (first | exact Below.refl _ _ | assumption | apply below_alloc | apply below_drew1 | apply pw_below_drewN | refine below_step ?_ (by assumption))), Lib.hid (by rw [Hp.out, hst.out, if_neg hno])⟩, by simp [intOf]; omega⟩
    · have hkl : k = d.files.length := by omega
      have h1 : placeOf d.files no = -1 := by simp only [placeOf, Hp.out, hkl, List.drop_of_length_le (Nat.le_refl _)]; rfl
      go_wp2
      go_ret
      exact ⟨by rw [h1]; rfl, hB⟩
set_option maxRecDepth 100000 in
set_option maxHeartbeats 2000000 in
theorem ref_open (d : SDisk) (Af Al : Option Addr) (cf cl : Nat) (w : World) (hne : d.list ≠ []) (hd : DRows w Af cf Al cl d) :
    Calls Try.prog 76 #[.agg #[.slice Af d.files.length cf, .slice Al d.list.length cl]] w fun e w' => e = .returned (.int .i64 (openNo d)) ∧ Below w.heap.size w w' := by
  have hl0 : 0 < d.list.length := List.length_pos_iff.2 hne
  have hm : d.list.length ≤ 9223372036854775807 := hd.list.2.1
  have hcl := hd.capl
  obtain ⟨al, rfl, hal⟩ := int_cell (Kd.C_below hd.list (below_alloc (Below.refl _ _) (.cells #[.slice Af d.files.length cf, .slice Al d.list.length cl] 33))) (d.list.length - 1) _ (last_get d.list hne) rfl
  clear hd hne
  have hsub : ((d.list.length : Int) - 1) = ((d.list.length - 1 : Nat) : Int) := by omega
  go_enter Try.func76, Try.ntmps76
  go_wp2
  go_ret
  exact ⟨rfl, (by repeat (first | exact Below.refl _ _ | assumption | apply below_alloc | apply below_drew1 | apply pw_below_drewN | refine below_step ?_ (by assumption)))⟩
end Go.Proofs.Ytfmojgdomficlaa
set_option linter.unusedVariables false
set_option linter.unusedSimpArgs false
/-! What comes in, opened: records, news, lists of news. -/
namespace Go.Proofs.Ytfmojgdomficlaa
open Go.RowKit Go.Proofs.YtfmojgdomficlaaW.PrintWords Go.ChangeShapes Go.WideShapes Go.Deep

section
variable {H : Type} {enc : TypeId × Value → H} {w : World} {base : Nat} {spare : Nat → Bool} {held : Bool}
theorem cells_int : Try.prog.cellsOf 3 = 1 := by kernel_rfl
theorem cells_do : Try.prog.cellsOf 22 = 1 := by kernel_rfl
theorem cells_rec : Try.prog.cellsOf 24 = 3 := by kernel_rfl
theorem cells_news : Try.prog.cellsOf 26 = 7 := by kernel_rfl
set_option maxRecDepth 100000 in
theorem open_rec {n : Nat} {cs : List Value} {x : DataW H × List MemPlace} (h : DataW.trod enc Try.prog w base spare held n 24 cs = some x) : ∃ r : Rec, cs = [.int .i64 r.at_, .int .i64 r.key, .int .i64 r.val] := by
  obtain ⟨xs, k, _, _, hl, hx, hf⟩ := DataW.trod_struct Try.underlying24 h
  rw [cells_rec] at hl
  match xs, hx, cs, hl with
  | [y0, y1, y2], _, [v0, v1, v2], _ =>
    have g0 := hf 0 _ rfl
    have g1 := hf 1 _ rfl
    have g2 := hf 2 _ rfl
    simp [cells_int] at g0 g1 g2
    obtain ⟨a, ha, _⟩ := DataW.trod_int Try.underlying3 g0
    obtain ⟨b, hb, _⟩ := DataW.trod_int Try.underlying3 g1
    obtain ⟨c, hc, _⟩ := DataW.trod_int Try.underlying3 g2
    refine ⟨⟨a, b, c⟩, ?_⟩
    simp at ha hb hc
    rw [ha, hb, hc]
set_option maxRecDepth 100000 in
theorem open_news {n : Nat} {cs : List Value} {x : DataW H × List MemPlace} (h : DataW.trod enc Try.prog w base spare held n 26 cs = some x) : ∃ r : News, cs = [.int .i64 r.do_, .int .i64 r.src, .int .i64 r.id, .int .i64 r.ver, .int .i64 r.body.at_, .int .i64 r.body.key, .int .i64 r.body.val] := by
  obtain ⟨xs, k, _, _, hl, hx, hf⟩ := DataW.trod_struct Try.underlying26 h
  rw [cells_news] at hl
  match xs, hx, cs, hl with
  | [y0, y1, y2, y3, y4], _, [v0, v1, v2, v3, v4, v5, v6], _ =>
    have g0 := hf 0 _ rfl
    have g1 := hf 1 _ rfl
    have g2 := hf 2 _ rfl
    have g3 := hf 3 _ rfl
    have g4 := hf 4 _ rfl
    simp [cells_int, cells_do, cells_rec] at g0 g1 g2 g3 g4
    obtain ⟨a, ha, _⟩ := DataW.trod_int Try.underlying22 g0
    obtain ⟨b, hb, _⟩ := DataW.trod_int Try.underlying3 g1
    obtain ⟨c, hc, _⟩ := DataW.trod_int Try.underlying3 g2
    obtain ⟨d, hd, _⟩ := DataW.trod_int Try.underlying3 g3
    obtain ⟨r, hr⟩ := open_rec g4
    refine ⟨⟨a, b, c, d, r⟩, ?_⟩
    simp at ha hb hc hd hr
    obtain ⟨h4, h5, h6⟩ := hr
    rw [ha, hb, hc, hd, h4, h5, h6]
set_option maxRecDepth 100000 in
theorem open_newsrow {n : Nat} {cs : List Value} {x : DataW H × List MemPlace} (h : DataW.trod enc Try.prog w base spare held n 34 cs = some x) :
    ∃ A len cap l, cs = [.slice A len cap] ∧ len ≤ cap ∧ l.length = len ∧ NewsRow w A l.length l := by
  rcases open_slice Try.underlying34 h with ⟨rfl, _⟩ | ⟨a, len, cap, m, n, D, Pl, rfl, hb, hlc, hm, hmm, _, hel⟩
  · exact ⟨none, 0, 0, [], rfl, Nat.le_refl _, rfl, Kd.C_nil _ _⟩
  · have hlm : len ≤ m := by rw [hmm]; split <;> omega
    have each : ∀ i, i < len → ∃ r : News, ∀ j u, [.int .i64 r.do_, .int .i64 r.src, .int .i64 r.id, .int .i64 r.ver, .int .i64 r.body.at_, .int .i64 r.body.key, .int .i64 r.body.val][j]? = some u → w.cell? (a.add (i * 7 + j)) = some u := by
      intro i hi
      obtain ⟨cs', h1, h2⟩ := hel i (by omega)
      rw [cells_news] at h1
      obtain ⟨_, hlen, hcell⟩ := World.cells?_some h1
      obtain ⟨r, rfl⟩ := open_news h2
      refine ⟨r, fun j u hu => ?_⟩
      have hj : j < 7 := (List.getElem?_eq_some_iff.1 hu).1
      have := hcell j hj
      rw [hu] at this
      rw [← this, Addr.add_add]
    have hch : ∃ f : Nat → News, ∀ i, i < len → ∀ j u, [.int .i64 (f i).do_, .int .i64 (f i).src, .int .i64 (f i).id, .int .i64 (f i).ver, .int .i64 (f i).body.at_, .int .i64 (f i).body.key, .int .i64 (f i).body.val][j]? = some u → w.cell? (a.add (i * 7 + j)) = some u := by
      refine ⟨fun i => if h : i < len then (each i h).choose else ⟨0, 0, 0, 0, ⟨0, 0, 0⟩⟩, fun i hi => ?_⟩
      simp only [dif_pos hi]
      exact (each i hi).choose_spec
    obtain ⟨f, hfc⟩ := hch
    have hll : ((List.range len).map f).length = len := by simp
    refine ⟨some a, len, cap, (List.range len).map f, rfl, hlc, hll, rfl, by rw [hll]; simp only [maxLen] at hm; omega, fun _ => ⟨a, rfl, fun j p hj => ?_⟩⟩
    have hjl : j < len := by rw [← hll]; exact (List.getElem?_eq_some_iff.1 hj).1
    obtain rfl : f j = p := by simpa [hjl] using hj
    exact ⟨_, rfl, kNews_mk w (f j), fun i u hu => hfc j hjl i u hu⟩
end
end Go.Proofs.Ytfmojgdomficlaa
set_option linter.unusedVariables false
set_option linter.unusedSimpArgs false
/-! How long a list of news may be; one of the news, opened. -/
namespace Go.Proofs.Ytfmojgdomficlaa
open Go.RowKit Go.Proofs.YtfmojgdomficlaaW.PrintWords Go.ChangeShapes Go.WideShapes Go.Deep

theorem sized_news {H : Type} {enc : TypeId × Value → H} {W : World} {base : Nat} {spare : Nat → Bool} {held : Bool} {a : Option Addr} {len cap : Nat} {d : DataW H} {ps : List MemPlace} {ts : List TypeId} {ds : List (DataW H)} {j : Nat}
    (hsz : (DataW.weightsEach Try.prog ts ds).all (· ≤ reachBytes) = true) (ht : ts[j]? = some 34) (hd : ds[j]? = some d)
    (h : DataW.Trod enc Try.prog W base spare held 34 (.slice a len cap) d ps) : len * 56 ≤ 140737488351232 := by
  obtain ⟨fuel, hf⟩ := h
  rcases open_slice Try.underlying34 hf with ⟨hcs, _⟩ | ⟨x, l, c, m, n, D, Pl, hcs, _, hlc, _, hmm, hx, _⟩
  · simp [Value.cells] at hcs
    obtain ⟨rfl, rfl, rfl⟩ := hcs
    simp
  · simp [Value.cells] at hcs
    obtain ⟨rfl, rfl, rfl⟩ := hcs
    obtain ⟨hx, _⟩ := Prod.mk.inj hx
    subst hx
    have z := sized_slice hsz ht hd Try.underlying34
    have hB : Try.prog.bytesOf 26 = 56 := by kernel_rfl
    rw [hB] at z
    simp only [List.length_map, List.length_range] at z
    refine Nat.le_trans (Nat.mul_le_mul_right _ ?_) z
    omega

set_option maxRecDepth 100000 in
theorem open_newsval {H : Type} {enc : TypeId × Value → H} {W : World} {base : Nat} {spare : Nat → Bool} {held : Bool} {r : Reach} {b0 : Nat} {v : Value} {d : DataW H} {p : List MemPlace} (hv : Value.okWide Try.prog W r b0 26 v) (h : DataW.Trod enc Try.prog W base spare held 26 v d p) : ∃ n : News, v = .agg #[.int .i64 n.do_, .int .i64 n.src, .int .i64 n.id, .int .i64 n.ver, .int .i64 n.body.at_, .int .i64 n.body.key, .int .i64 n.body.val] := by
  obtain ⟨cs, rfl, hsz⟩ := okWide_struct Try.underlying26 hv
  obtain ⟨fuel, hf⟩ := h
  obtain ⟨n, hn⟩ := open_news hf
  refine ⟨n, ?_⟩
  have e : cs.toList = [.int .i64 n.do_, .int .i64 n.src, .int .i64 n.id, .int .i64 n.ver, .int .i64 n.body.at_, .int .i64 n.body.key, .int .i64 n.body.val] := by simpa [Value.cells] using hn
  congr 1
  apply Array.toList_inj.1
  rw [e]
end Go.Proofs.Ytfmojgdomficlaa
set_option linter.unusedVariables false
set_option linter.unusedSimpArgs false
/-! What comes in, opened, with what its numbers and its memory bound: news, devices, steps. -/
namespace Go.Proofs.Ytfmojgdomficlaa
open Go.RowKit Go.Proofs.YtfmojgdomficlaaW.PrintWords Go.ChangeShapes Go.WideShapes Go.Deep

def I64 (x : Int) : Prop := -9223372036854775808 ≤ x ∧ x ≤ 9223372036854775807
theorem i64_of {x : Int} (h : (Lit.int .i64 x).wf = true) : I64 x := by
  simp only [Lit.wf, Bool.and_eq_true, decide_eq_true_eq] at h
  exact ⟨by have e : IntKind.i64.min = -9223372036854775808 := by decide
            omega, by have e : IntKind.i64.max = 9223372036854775807 := by decide
                      omega⟩
def NewsI (n : News) : Prop := I64 n.do_ ∧ I64 n.src ∧ I64 n.id ∧ I64 n.ver ∧ I64 n.body.at_ ∧ I64 n.body.key ∧ I64 n.body.val
def RecI (r : SRec) : Prop := NewsI r.news ∧ I64 r.sum
def FileI (f : SFile) : Prop := I64 f.no ∧ I64 f.safe ∧ f.recs.length * 64 ≤ 140737488351232 ∧ ∀ r ∈ f.recs, RecI r
def DiskI (d : SDisk) : Prop := (∀ f ∈ d.files, FileI f) ∧ (∀ no ∈ d.list, I64 no) ∧ d.files.length * 40 ≤ 140737488351232 ∧ d.list.length * 8 ≤ 140737488351232
def StepI (s : SStep) : Prop := I64 s.do_ ∧ I64 s.k ∧ I64 s.stop ∧ NewsI s.news
section
variable {H : Type} {enc : TypeId × Value → H} {w : World} {base : Nat} {spare : Nat → Bool} {held : Bool}
/-- All that a value holds fits the reach. -/
def Small (d : DataW H) (t : TypeId) : Prop := ∀ n ∈ d.weights Try.prog t, n ≤ reachBytes
theorem mem_weightsAll {e : TypeId} : ∀ {l : List (DataW H)} {d : DataW H}, d ∈ l → ∀ n ∈ d.weights Try.prog e, n ∈ DataW.weightsAll Try.prog e l
  | x :: l, d, hd, n, hn => by
    simp only [DataW.weightsAll, List.mem_append]
    rcases List.mem_cons.1 hd with rfl | hd
    · exact .inl hn
    · exact .inr (mem_weightsAll hd n hn)
theorem small_part {t : TypeId} {fs : Array Field} (ht : Try.prog.underlying t = some (.struct fs)) {parts : List (DataW H)} (h : Small (.agg parts) t) {j : Nat} {u : TypeId} {d : DataW H} (hj : (fs.toList.map (·.type))[j]? = some u) (hd : parts[j]? = some d) : Small d u := fun n hn => by
  refine h n ?_
  unfold DataW.weights
  rw [ht]
  exact DataW.weights_mem_each hj hd n hn
theorem open_rowK {α : Type} {T E : TypeId} {sz : Nat} (hT : Try.prog.underlying T = some (.slice E)) (hsz : Try.prog.cellsOf E = sz) {K : α → List Value → Prop} (dflt : α) (hlen : ∀ r cs, K r cs → cs.length = sz)
    (hel : ∀ n cs d ps, DataW.trod enc Try.prog w base spare held n E cs = some (d, ps) → Small d E → ∃ r, K r cs) {n : Nat} {cs : List Value} {d : DataW H} {ps : List MemPlace} (h : DataW.trod enc Try.prog w base spare held n T cs = some (d, ps)) (hs : Small d T) :
    ∃ A len cap l, cs = [.slice A len cap] ∧ len ≤ cap ∧ l.length = len ∧ len * Try.prog.bytesOf E ≤ reachBytes ∧ ReadsRow K sz w A l.length l := by
  rcases open_slice hT h with ⟨rfl, _⟩ | ⟨a, len, cap, m, n, D, Pl, rfl, hb, hlc, hm, hmm, hx, hel'⟩
  · exact ⟨none, 0, 0, [], rfl, Nat.le_refl _, rfl, by simp, rfl, by simp, fun h => absurd h (by simp)⟩
  · have hlm : len ≤ m := by rw [hmm]; split <;> omega
    obtain ⟨rfl, -⟩ := Prod.mk.inj hx
    have hwt : len * Try.prog.bytesOf E ≤ reachBytes := by
      have := hs ((((List.range len).map D).length + ((List.range (m - len)).map fun j => D (len + j)).length) * Try.prog.bytesOf E) (by unfold DataW.weights; rw [hT]; exact List.mem_cons_self)
      refine Nat.le_trans (Nat.mul_le_mul_right _ ?_) this
      simp
    have each : ∀ i, i < len → ∃ r, ∃ cs', K r cs' ∧ ∀ j u, cs'[j]? = some u → w.cell? (a.add (i * sz + j)) = some u := by
      intro i hi
      obtain ⟨cs', h1, h2⟩ := hel' i (by omega)
      rw [hsz] at h1
      obtain ⟨_, hlen', hcell⟩ := World.cells?_some h1
      obtain ⟨r, hr⟩ := hel _ _ _ _ h2 (fun k hk => hs k (by
        unfold DataW.weights; rw [hT]
        refine List.mem_cons_of_mem _ (List.mem_append_left _ (mem_weightsAll (List.mem_map_of_mem (List.mem_range.2 hi)) k hk))))
      refine ⟨r, cs', hr, fun j u hu => ?_⟩
      have hj : j < sz := by rw [← hlen r cs' hr]; exact (List.getElem?_eq_some_iff.1 hu).1
      have := hcell j hj
      rw [hu] at this
      rw [← this, Addr.add_add]
    have hch : ∃ f : Nat → α, ∀ i, i < len → ∃ cs', K (f i) cs' ∧ ∀ j u, cs'[j]? = some u → w.cell? (a.add (i * sz + j)) = some u := by
      refine ⟨fun i => if h : i < len then (each i h).choose else dflt, fun i hi => ?_⟩
      simp only [dif_pos hi]
      exact (each i hi).choose_spec
    obtain ⟨f, hfc⟩ := hch
    have hll : ((List.range len).map f).length = len := by simp
    refine ⟨some a, len, cap, (List.range len).map f, rfl, hlc, hll, hwt, rfl, by rw [hll]; simp only [maxLen] at hm; omega, fun _ => ⟨a, rfl, fun j p hj => ?_⟩⟩
    have hjl : j < len := by rw [← hll]; exact (List.getElem?_eq_some_iff.1 hj).1
    obtain rfl : f j = p := by simpa [hjl] using hj
    obtain ⟨cs', k1, k2⟩ := hfc j hjl
    exact ⟨cs', hlen _ _ k1, k1, k2⟩
theorem reads_all {α : Type} {R : α → List Value → Prop} {size : Nat} {A : Option Addr} {l : List α} (h : ReadsRow R size w A l.length l) : ∀ x ∈ l, ∃ c, R x c := fun x hx => by
  obtain ⟨ad, _, hc⟩ := h.2.2 (List.length_pos_of_mem hx)
  obtain ⟨j, hj⟩ := List.getElem?_of_mem hx
  obtain ⟨c, _, h2, _⟩ := hc j x hj
  exact ⟨c, h2⟩
theorem reads_imp {α : Type} {R R' : α → List Value → Prop} {size : Nat} {A : Option Addr} {n : Nat} {l : List α} (h : ReadsRow R size w A n l) (hR : ∀ p c, R p c → R' p c) : ReadsRow R' size w A n l := ReadsRow.imp_ h (Below.refl _ _) hR

theorem cells_rec8 : Try.prog.cellsOf 83 = 8 := by kernel_rfl
theorem cells_file : Try.prog.cellsOf 62 = 3 := by kernel_rfl
theorem cells_step : Try.prog.cellsOf 58 = 11 := by kernel_rfl
theorem cells_sdo : Try.prog.cellsOf 56 = 1 := by kernel_rfl
theorem cells_bool : Try.prog.cellsOf 4 = 1 := by kernel_rfl
theorem cells_recs : Try.prog.cellsOf 60 = 1 := by kernel_rfl
set_option maxRecDepth 100000 in
theorem open_recI {n : Nat} {cs : List Value} {x : DataW H × List MemPlace} (h : DataW.trod enc Try.prog w base spare held n 24 cs = some x) : ∃ r : Rec, cs = [.int .i64 r.at_, .int .i64 r.key, .int .i64 r.val] ∧ I64 r.at_ ∧ I64 r.key ∧ I64 r.val := by
  obtain ⟨xs, k, _, _, hl, hx, hf⟩ := DataW.trod_struct Try.underlying24 h
  rw [cells_rec] at hl
  match xs, hx, cs, hl with
  | [y0, y1, y2], _, [v0, v1, v2], _ =>
    have g0 := hf 0 _ rfl
    have g1 := hf 1 _ rfl
    have g2 := hf 2 _ rfl
    simp [cells_int] at g0 g1 g2
    obtain ⟨a, ha, _, wa⟩ := DataW.trod_int Try.underlying3 g0
    obtain ⟨b, hb, _, wb⟩ := DataW.trod_int Try.underlying3 g1
    obtain ⟨c, hc, _, wc⟩ := DataW.trod_int Try.underlying3 g2
    refine ⟨⟨a, b, c⟩, ?_, i64_of wa, i64_of wb, i64_of wc⟩
    simp at ha hb hc
    rw [ha, hb, hc]
set_option maxRecDepth 100000 in
theorem open_newsI {n : Nat} {cs : List Value} {x : DataW H × List MemPlace} (h : DataW.trod enc Try.prog w base spare held n 26 cs = some x) : ∃ r : News, cs = [.int .i64 r.do_, .int .i64 r.src, .int .i64 r.id, .int .i64 r.ver, .int .i64 r.body.at_, .int .i64 r.body.key, .int .i64 r.body.val] ∧ NewsI r := by
  obtain ⟨xs, k, _, _, hl, hx, hf⟩ := DataW.trod_struct Try.underlying26 h
  rw [cells_news] at hl
  match xs, hx, cs, hl with
  | [y0, y1, y2, y3, y4], _, [v0, v1, v2, v3, v4, v5, v6], _ =>
    have g0 := hf 0 _ rfl
    have g1 := hf 1 _ rfl
    have g2 := hf 2 _ rfl
    have g3 := hf 3 _ rfl
    have g4 := hf 4 _ rfl
    simp [cells_int, cells_do, cells_rec] at g0 g1 g2 g3 g4
    obtain ⟨a, ha, _, wa⟩ := DataW.trod_int Try.underlying22 g0
    obtain ⟨b, hb, _, wb⟩ := DataW.trod_int Try.underlying3 g1
    obtain ⟨c, hc, _, wc⟩ := DataW.trod_int Try.underlying3 g2
    obtain ⟨d, hd, _, wd⟩ := DataW.trod_int Try.underlying3 g3
    obtain ⟨r, hr, k1, k2, k3⟩ := open_recI g4
    refine ⟨⟨a, b, c, d, r⟩, ?_, i64_of wa, i64_of wb, i64_of wc, i64_of wd, k1, k2, k3⟩
    simp at ha hb hc hd hr
    obtain ⟨h4, h5, h6⟩ := hr
    rw [ha, hb, hc, hd, h4, h5, h6]
set_option maxRecDepth 100000 in
theorem open_srec {n : Nat} {cs : List Value} {x : DataW H × List MemPlace} (h : DataW.trod enc Try.prog w base spare held n 83 cs = some x) : ∃ r : SRec, cs = [.int .i64 r.news.do_, .int .i64 r.news.src, .int .i64 r.news.id, .int .i64 r.news.ver, .int .i64 r.news.body.at_, .int .i64 r.news.body.key, .int .i64 r.news.body.val, .int .i64 r.sum] ∧ RecI r := by
  obtain ⟨xs, k, _, _, hl, hx, hf⟩ := DataW.trod_struct Try.underlying83 h
  rw [cells_rec8] at hl
  match xs, hx, cs, hl with
  | [y0, y1], _, [v0, v1, v2, v3, v4, v5, v6, v7], _ =>
    have g0 := hf 0 _ rfl
    have g1 := hf 1 _ rfl
    simp [cells_int, cells_news] at g0 g1
    obtain ⟨r, hr, wr⟩ := open_newsI g0
    obtain ⟨b, hb, _, wb⟩ := DataW.trod_int Try.underlying3 g1
    refine ⟨⟨r, b⟩, ?_, wr, i64_of wb⟩
    simp at hr hb
    obtain ⟨e0, e1, e2, e3, e4, e5, e6⟩ := hr
    rw [e0, e1, e2, e3, e4, e5, e6, hb]
set_option maxRecDepth 100000 in
theorem open_sfile {n : Nat} {cs : List Value} {d : DataW H} {ps : List MemPlace} (h : DataW.trod enc Try.prog w base spare held n 62 cs = some (d, ps)) (hs : Small d 62) : ∃ r : SFile, kSFile.K w r cs ∧ FileI r := by
  obtain ⟨xs, k, _, hxx, hl, hx, hf⟩ := DataW.trod_struct Try.underlying62 h
  rw [cells_file] at hl
  obtain ⟨rfl, -⟩ := Prod.mk.inj hxx
  match xs, hx, cs, hl, hs with
  | [y0, y1, y2], _, [v0, v1, v2], _, hs =>
    have g0 := hf 0 _ rfl
    have g1 := hf 1 _ rfl
    have g2 := hf 2 _ rfl
    simp [cells_int, cells_recs] at g0 g1 g2
    obtain ⟨a, ha, _, wa⟩ := DataW.trod_int Try.underlying3 g0
    obtain ⟨c, hc, _, wc⟩ := DataW.trod_int Try.underlying3 g2
    obtain ⟨A, len, cap, l, hcs, h1, rfl, h3, h4⟩ := open_rowK (E := 83) (K := fun (r : SRec) cs => cs = [.int .i64 r.news.do_, .int .i64 r.news.src, .int .i64 r.news.id, .int .i64 r.news.ver, .int .i64 r.news.body.at_, .int .i64 r.news.body.key, .int .i64 r.news.body.val, .int .i64 r.sum] ∧ RecI r) Try.underlying60 cells_rec8 default (fun r cs hk => by rw [hk.1]; rfl) (fun n cs d ps hh _ => open_srec hh) (d := y1.1) (ps := y1.2) g1 (small_part Try.underlying62 hs (j := 1) rfl rfl)
    simp at ha hc hcs
    subst ha hc hcs
    have hB : Try.prog.bytesOf 83 = 64 := by kernel_rfl
    rw [hB] at h3
    refine ⟨⟨a, l, c⟩, kSFile_mk ⟨a, l, c⟩ A cap h1 (reads_imp h4 fun p c hp => by rw [hp.1]; exact kSRec_mk _ _), i64_of wa, i64_of wc, h3, fun r hr => ?_⟩
    obtain ⟨_, _, hc⟩ := reads_all h4 r hr
    exact hc
set_option maxRecDepth 100000 in
theorem open_step {n : Nat} {cs : List Value} {x : DataW H × List MemPlace} (h : DataW.trod enc Try.prog w base spare held n 58 cs = some x) : ∃ s : SStep, cs = stepCells s ∧ StepI s := by
  obtain ⟨xs, k, _, _, hl, hx, hf⟩ := DataW.trod_struct Try.underlying58 h
  rw [cells_step] at hl
  match xs, hx, cs, hl with
  | [y0, y1, y2, y3, y4], _, [v0, v1, v2, v3, v4, v5, v6, v7, v8, v9, v10], _ =>
    have g0 := hf 0 _ rfl
    have g1 := hf 1 _ rfl
    have g2 := hf 2 _ rfl
    have g3 := hf 3 _ rfl
    have g4 := hf 4 _ rfl
    simp [cells_int, cells_sdo, cells_bool, cells_news] at g0 g1 g2 g3 g4
    obtain ⟨a, ha, _, wa⟩ := DataW.trod_int Try.underlying56 g0
    obtain ⟨b, hb, _, wb⟩ := DataW.trod_int Try.underlying3 g1
    obtain ⟨c, hc, _, wc⟩ := DataW.trod_int Try.underlying3 g2
    obtain ⟨d, hd, _⟩ := DataW.trod_bool Try.underlying4 g3
    obtain ⟨r, hr, wr⟩ := open_newsI g4
    refine ⟨⟨a, b, c, d, r⟩, ?_, i64_of wa, i64_of wb, i64_of wc, wr⟩
    simp at ha hb hc hd hr
    obtain ⟨e0, e1, e2, e3, e4, e5, e6⟩ := hr
    rw [ha, hb, hc, hd, e0, e1, e2, e3, e4, e5, e6]
    rfl
end
set_option maxRecDepth 100000 in
theorem open_newsvalI {H : Type} {enc : TypeId × Value → H} {W : World} {base : Nat} {spare : Nat → Bool} {held : Bool} {r : Reach} {b0 : Nat} {v : Value} {d : DataW H} {p : List MemPlace} (hv : Value.okWide Try.prog W r b0 26 v) (h : DataW.Trod enc Try.prog W base spare held 26 v d p) : ∃ n : News, v = .agg #[.int .i64 n.do_, .int .i64 n.src, .int .i64 n.id, .int .i64 n.ver, .int .i64 n.body.at_, .int .i64 n.body.key, .int .i64 n.body.val] ∧ NewsI n := by
  obtain ⟨cs, rfl, hsz⟩ := okWide_struct Try.underlying26 hv
  obtain ⟨fuel, hf⟩ := h
  obtain ⟨n, hn, hi⟩ := open_newsI hf
  refine ⟨n, ?_, hi⟩
  have e : cs.toList = [.int .i64 n.do_, .int .i64 n.src, .int .i64 n.id, .int .i64 n.ver, .int .i64 n.body.at_, .int .i64 n.body.key, .int .i64 n.body.val] := by simpa [Value.cells] using hn
  congr 1
  apply Array.toList_inj.1
  rw [e]
theorem small_of {H : Type} {ts : List TypeId} {ds : List (DataW H)} {j : Nat} {t : TypeId} {d : DataW H} (hsz : (DataW.weightsEach Try.prog ts ds).all (· ≤ reachBytes) = true) (ht : ts[j]? = some t) (hd : ds[j]? = some d) : Small d t := fun n hn => by
  have := List.all_eq_true.1 hsz _ (DataW.weights_mem_each ht hd n hn)
  simpa using this
set_option maxRecDepth 100000 in
/-- A device that comes in. -/
theorem open_disk {H : Type} {enc : TypeId × Value → H} {W : World} {base : Nat} {spare : Nat → Bool} {held : Bool} {r : Reach} {b0 : Nat} {v : Value} {d : DataW H} {p : List MemPlace} (hv : Value.okWide Try.prog W r b0 33 v) (h : DataW.Trod enc Try.prog W base spare held 33 v d p) (hs : Small d 33) :
    ∃ (D : SDisk) (Af Al : Option Addr) (cf cl : Nat), v = .agg #[.slice Af D.files.length cf, .slice Al D.list.length cl] ∧ DRows W Af cf Al cl D ∧ DiskI D := by
  obtain ⟨cs, rfl, hsz⟩ := okWide_struct Try.underlying33 hv
  obtain ⟨fuel, hf0⟩ := h
  obtain ⟨xs, k, _, hxx, hl, hx, hf⟩ := DataW.trod_struct Try.underlying33 hf0
  clear hf0
  obtain ⟨rfl, -⟩ := Prod.mk.inj hxx
  have hc2 : Try.prog.cellsOf 33 = 2 := by kernel_rfl
  rw [hc2] at hl
  have hvc : (Value.agg cs).cells.toList = cs.toList := by simp [Value.cells]
  match xs, hx, hs with
  | [y0, y1], _, hs =>
    have g0 := hf 0 _ rfl
    have g1 := hf 1 _ rfl
    obtain ⟨Af, lf, cf, fl, hcs0, h1, rfl, h3, h4⟩ := open_rowK (E := 62) (K := fun (r : SFile) cs => kSFile.K W r cs ∧ FileI r) Try.underlying30 cells_file default (fun r cs hk => by obtain ⟨A, c, rfl, _⟩ := kSFile_open hk.1; rfl) (fun n cs d ps hh hs' => open_sfile hh hs') (d := y0.1) (ps := y0.2) g0 (small_part Try.underlying33 hs (j := 0) rfl rfl)
    obtain ⟨Al, ll, cl, nl, hcs1, k1, rfl, k3, k4⟩ := open_rowK (E := 3) (K := fun (r : Int) cs => cs = [.int .i64 r] ∧ I64 r) Try.underlying31 cells_int default (fun r cs hk => by rw [hk.1]; rfl) (fun n cs d ps hh _ => by
      obtain ⟨a, ha, _, wa⟩ := DataW.trod_int Try.underlying3 hh
      exact ⟨a, ha, i64_of wa⟩) (d := y1.1) (ps := y1.2) g1 (small_part Try.underlying33 hs (j := 1) rfl rfl)
    have c1 : Try.prog.cellsOf 30 = 1 := by kernel_rfl
    have c2 : Try.prog.cellsOf 31 = 1 := by kernel_rfl
    have hB : Try.prog.bytesOf 62 = 40 := by kernel_rfl
    have hB2 : Try.prog.bytesOf 3 = 8 := by kernel_rfl
    rw [hB] at h3
    rw [hB2] at k3
    refine ⟨⟨fl, nl⟩, Af, Al, cf, cl, ?_, ⟨reads_imp h4 fun p c hp => hp.1, reads_imp k4 fun p c hp => hp.1, h1, k1⟩, fun f hf => ?_, fun no hno => ?_, h3, k3⟩
    · rw [hvc] at hcs0 hcs1 hl
      congr 1
      apply Array.toList_inj.1
      match hcl : cs.toList, hl with
      | [v0, v1], _ =>
        rw [hcl] at hcs0 hcs1
        simp [c1, c2] at hcs0 hcs1
        rw [hcs0, hcs1]
    · obtain ⟨_, _, hc⟩ := reads_all h4 f hf
      exact hc
    · obtain ⟨_, _, hc⟩ := reads_all k4 no hno
      exact hc
set_option maxRecDepth 100000 in
/-- Steps that come in. -/
theorem open_steps {H : Type} {enc : TypeId × Value → H} {W : World} {base : Nat} {spare : Nat → Bool} {held : Bool} {a : Option Addr} {len cap : Nat} {d : DataW H} {p : List MemPlace} (h : DataW.Trod enc Try.prog W base spare held 45 (.slice a len cap) d p) (hs : Small d 45) :
    ∃ l : List SStep, l.length = len ∧ len ≤ cap ∧ len * 88 ≤ 140737488351232 ∧ StepsRow W a l.length l ∧ ∀ s ∈ l, StepI s := by
  obtain ⟨fuel, hf⟩ := h
  obtain ⟨A, ln, cp, l, hcs, h1, h2, h3, h4⟩ := open_rowK (E := 58) (K := fun (r : SStep) cs => cs = stepCells r ∧ StepI r) Try.underlying45 cells_step ⟨0, 0, 0, false, ⟨0, 0, 0, 0, ⟨0, 0, 0⟩⟩⟩ (fun r cs hk => by rw [hk.1]; rfl) (fun n cs d ps hh _ => open_step hh) hf hs
  simp [Value.cells] at hcs
  obtain ⟨rfl, rfl, rfl⟩ := hcs
  have hB : Try.prog.bytesOf 58 = 88 := by kernel_rfl
  rw [hB] at h3
  refine ⟨l, h2, h1, h3, reads_imp h4 fun p c hp => by rw [hp.1]; exact kStep_mk _ _, fun s hs => ?_⟩
  obtain ⟨_, _, hc⟩ := reads_all h4 s hs
  exact hc
end Go.Proofs.Ytfmojgdomficlaa
set_option linter.unusedVariables false
set_option linter.unusedSimpArgs false
/-! Steps, cloned; the rest of the chapter's examples, computed. -/
namespace Go.Proofs.Ytfmojgdomficlaa
open Go.RowKit Go.Shelf Go.Proofs.YtfmojgdomficlaaW.PrintWords

theorem run_eql_slice_nil (P : Program) (w : World) (t e : TypeId) (a : Option Addr) (l c : Nat) (h : P.underlying t = some (.slice e)) : (binOp .eql t (.slice a l c) (.slice none 0 0)).run P w = .ok (.bool a.isNone) w := by
  simp only [binOp]
  simp [run_equal_slice_nil w t e a l c h]
attribute [local go_sem] run_eql_slice_nil
def mergeS (k stop : Int) : SStep := ⟨4, k, stop, false, ⟨0, 0, 0, 0, ⟨0, 0, 0⟩⟩⟩
def exD (i : Int) : SDisk := (playOf beginD (threeS ++ [crashS i false, doS 6])).1.1
def exE (stop : Int) : SDisk := (playOf beginD (fourS ++ [mergeS 0 stop])).1.1
theorem known_d0 : (playOf beginD (threeS ++ [crashS 0 false, doS 6])).2 = 0 ∧ diskB (exD 0) = true ∧ thereOf (exD 0) = [sayN 1 1] := by decide +kernel
theorem known_d1 : (playOf beginD (threeS ++ [crashS 1 false, doS 6])).2 = 0 ∧ diskB (exD 1) = true ∧ thereOf (exD 1) = [sayN 1 1, sayN 2 1] := by decide +kernel
theorem known_e1 : (playOf beginD (fourS ++ [mergeS 0 1])).2 = 0 ∧ (playOf beginD (fourS ++ [mergeS 0 1])).1.2 = [true, true, true, true, true, true, true] ∧ (exE 1).files.length = 4 ∧ (exE 1).list = [1, 2, 3] := by decide +kernel
theorem known_e2 : (playOf beginD (fourS ++ [mergeS 0 2])).2 = 0 ∧ (playOf beginD (fourS ++ [mergeS 0 2])).1.2 = [true, true, true, true, true, true, true] ∧ (exE 2).files.length = 4 ∧ (exE 2).list = [4, 3] := by decide +kernel
theorem known_f : (playOf beginD (fourS ++ [mergeS 1 0])).2 = 0 ∧ (playOf beginD (fourS ++ [mergeS 1 0])).1.2 = [true, true, true, true, true, true, false] := by decide +kernel
set_option maxRecDepth 100000 in
set_option maxHeartbeats 2000000 in
theorem clone_steps (l : List SStep) (A : Option Addr) (c : Nat) (w : World) (hr : StepsRow w A l.length l) (hl : l.length * 88 ≤ 140737488351232) :
    Calls Try.prog 35 #[.slice A l.length c] w fun e w' => ∃ v, e = .returned v ∧ Own kStep 58 w' w.heap.size v l ∧ Below w.heap.size w w' := by
  rcases A with _ | ad
  · have hl0 : l = [] := by
      cases l with
      | nil => rfl
      | cons x l => obtain ⟨ad, h, _⟩ := hr.2.2 (by simp); cases h
    subst hl0
    go_enter Try.func35, Try.ntmps35
    go_wp2
    go_ret
    exact ⟨_, rfl, Kd.R_nil _ _ _ _ _, Below.refl _ _⟩
  · have Hr := Lib.hid hr
    clear hr
    go_enter Try.func35, Try.ntmps35
    go_wp2_with (at_builtin; refine Kd.R_append_rows kStep (w0 := w) w.heap.size rfl _ _ 45 58 (.agg #[.int .i64 0, .int .i64 0, .int .i64 0, .bool false, .int .i64 0, .int .i64 0, .int .i64 0, .int .i64 0, .int .i64 0, .int .i64 0, .int .i64 0]) 88 rfl (by kernel_rfl) (by kernel_rfl) rfl (by decide) (by omega) _ ([] : List SStep) l _ _ _ (fun _ => True) (fun _ => False) rfl rfl (own_steps' (Below.refl _ _) [] _ (by rfl) (by decide)) (Kd.C_below Hr.out (below_alloc (Below.refl _ _) _)) (fun x cs h => step_KM _ _ x cs h) (fun _ h => h.elim) (fun _ _ => trivial) (below_alloc (Below.refl _ _) _) (by rw [World.size_alloc]; omega) (by simp only [List.length_nil]; omega) ?_; intro v1 w1 r1 r2 r3 r4; obtain ⟨A1, n1, c1, rfl⟩ := R_slice' r1)
    go_ret
    exact ⟨_, rfl, r1, r2⟩
/-- News of a device that has been played. -/
theorem play_pure {d x : SDisk} {l : List SStep} {done : List Bool} (h0 : (playOf d l).2 = 0) (h1 : (playOf d l).1.1 = x) (h2 : (playOf d l).1.2 = done) (hF : Fits d) (hk : ∀ s ∈ l, s.k ≤ 9223372036854775807) {n : Nat} (hn : n = l.length) (Af Al A : Option Addr) (cf cl c : Nat) (w : World) (hd : DRows w Af cf Al cl d) (hl : StepsRow w A n l) (hc : n ≤ c) :
    Calls Try.prog 25 #[.agg #[.slice Af d.files.length cf, .slice Al d.list.length cl], .slice A n c] w (PlayAt x done w) := by
  subst hn
  exact (seg_Play d l Af Al A cf cl c w hd hF hl hc hk).mono fun _ _ h => play_at h h0 h1 h2
theorem clone_n (l : List SStep) (n : Nat) (hn : n = l.length) (A : Option Addr) (c : Nat) (w : World) (hr : StepsRow w A n l) (hl : l.length * 88 ≤ 140737488351232) :
    Calls Try.prog 35 #[.slice A n c] w fun e w' => ∃ v, e = .returned v ∧ Own kStep 58 w' w.heap.size v l ∧ Below w.heap.size w w' := by
  subst hn
  exact clone_steps l A c w hr hl
theorem kn_news_n {d : SDisk} {l : List News} (hb : diskB d = true) (ht : thereOf d = l) (n : Nat) (hn : n = l.length) (Af Al : Option Addr) (cf cl : Nat) (w : World) (hd : DRows w Af cf Al cl d) :
    Calls Try.prog 14 #[.agg #[.slice Af d.files.length cf, .slice Al d.list.length cl]] w fun e w' => ∃ A c, e = .returned (.tuple #[.slice A n c, .int .i64 0]) ∧ Kd.C kNews w' A n l ∧ n ≤ c ∧ Below w.heap.size w w' := by
  subst hn
  exact kn_news_at hb ht Af Al cf cl w hd
theorem kn_eq_news (l : List News) (n : Nat) (hn : n = l.length) (A B : Option Addr) (c1 c2 : Nat) (w : World) (hl : Kd.C kNews w A n l) (hm : Kd.C kNews w B n l) :
    Calls Try.prog 34 #[.slice A n c1, .slice B n c2] w fun e w' => e = .returned (.bool true) ∧ Below w.heap.size w w' := by
  subst hn
  exact (eq_news l l A B c1 c2 w hl hm).mono fun e w' h => by rw [decide_eq_true rfl] at h; exact h
theorem kn_eq_ints (l : List Int) (n : Nat) (hn : n = l.length) (A B : Option Addr) (c1 c2 : Nat) (w : World) (hl : Kd.C (Kd.int .i64) w A n l) (hm : Kd.C (Kd.int .i64) w B n l) :
    Calls Try.prog 40 #[.slice A n c1, .slice B n c2] w fun e w' => e = .returned (.bool true) ∧ Below w.heap.size w w' := by
  subst hn
  exact (eq_ints l l A B c1 c2 w hl hm).mono fun e w' h => by rw [decide_eq_true rfl] at h; exact h
theorem lit_steps (W : World) (l : List SStep) (hl : l.length ≤ 1000) (n : Nat) (hn : n = l.length) (cs : Array Value) (hcs : cs = (l.flatMap stepCells).toArray) : StepsRow (W.alloc (.cells cs 58)) (some ⟨W.heap.size, 0, none⟩) n l := by
  subst hn
  exact steps_row _ _ l hl cs _ hcs (Cells.new W _ _)
theorem say_behind {w W : World} {cs : Array Value} (HB : Below w.heap.size w W) (l : List SStep) (hl : l.length ≤ 1000) (n : Nat) (hn : n = l.length) (hcs : cs = (l.flatMap stepCells).toArray) (id ver : Int) (h0 : 0 ≤ ver) (h1 : ver ≤ 1000) :
    Calls Try.prog 38 #[.int .i64 id, .int .i64 ver] (W.alloc (.cells cs 58)) fun e w' => e = .returned (.agg #[.int .i64 1, .int .i64 0, .int .i64 id, .int .i64 ver, .int .i64 (10 + ver), .int .i64 0, .int .i64 0]) ∧ StepsRow w' (some ⟨W.heap.size, 0, none⟩) n l ∧ Below w.heap.size w w' := by
  refine (law_Say id ver _ h0 h1).mono ?_
  rintro e w' ⟨rfl, hb⟩
  exact ⟨rfl, Kd.C_below (lit_steps W l hl n hn cs hcs) hb, below_step (below_alloc HB _) hb⟩
theorem say_behind_news {w W : World} {cs : Array Value} (HB : Below w.heap.size w W) (l : List News) (hl : l.length ≤ 1000) (n : Nat) (hn : n = l.length) (hcs : cs = (l.flatMap newsCells).toArray) (id ver : Int) (h0 : 0 ≤ ver) (h1 : ver ≤ 1000) :
    Calls Try.prog 38 #[.int .i64 id, .int .i64 ver] (W.alloc (.cells cs 26)) fun e w' => e = .returned (.agg #[.int .i64 1, .int .i64 0, .int .i64 id, .int .i64 ver, .int .i64 (10 + ver), .int .i64 0, .int .i64 0]) ∧ Kd.C kNews w' (some ⟨W.heap.size, 0, none⟩) n l ∧ Below W.heap.size W w' := by
  subst hn
  refine (law_Say id ver _ h0 h1).mono ?_
  rintro e w' ⟨rfl, hb⟩
  exact ⟨rfl, Kd.C_below (lit_news W l hl cs hcs) hb, below_step (below_alloc (Below.refl _ _) _) hb⟩
/-- What Play answers, as far as the examples ask. -/
theorem play_e {s : SStep} {x : SDisk} {L : List Int} {done : List Bool} {b : Bool} {nf nl : Nat} (h0 : (playOf beginD (fourS ++ [s])).2 = 0) (h1 : (playOf beginD (fourS ++ [s])).1.1 = x) (h2 : (playOf beginD (fourS ++ [s])).1.2 = done) (hd7 : done.length = 7) (hb : done[6]? = some b) (hf : x.files.length = nf) (hL : x.list = L) (hnl : nl = L.length) (hk : s.k ≤ 1000)
    (Af Al A : Option Addr) (cf cl c : Nat) (w : World) (hd : DRows w Af cf Al cl beginD) (hl : StepsRow w A 7 (fourS ++ [s])) (hc : 7 ≤ c) :
    Calls Try.prog 25 #[.agg #[.slice Af beginD.files.length cf, .slice Al beginD.list.length cl], .slice A 7 c] w fun e w' => ∃ Af cf Al cl ab cb, e = .returned (.tuple #[.agg #[.slice Af nf cf, .slice Al nl cl], .slice (some ab) 7 cb, .int .i64 0]) ∧ Kd.C (Kd.int .i64) w' Al nl L ∧ w'.cell? ⟨ab.block, ab.off + 6, none⟩ = some (.bool b) ∧ Below w.heap.size w w' := by
  subst hnl hf hL
  refine (play_pure h0 h1 h2 fits_begin (fun z hz => ?_) (n := 7) rfl Af Al A cf cl c w hd hl hc).mono ?_
  · rcases List.mem_append.1 hz with hz | hz
    · have : ∀ z ∈ fourS, z.k ≤ 9223372036854775807 := by decide
      exact this z hz
    · rw [List.mem_singleton.1 hz]; omega
  · rintro e w' ⟨_, rfl, hb', Af2, cf2, Al2, cl2, Ab2, cb2, rfl, hd2, hbl, -⟩
    rw [hd7] at hbl ⊢
    obtain ⟨y, ab, -, -, hy, rfl, hcell⟩ := bool_at hbl 6 (by decide)
    rw [hb] at hy
    obtain rfl := Option.some.inj hy
    exact ⟨_, _, _, _, ab, _, rfl, hd2.list, hcell, hb'⟩
end Go.Proofs.Ytfmojgdomficlaa
