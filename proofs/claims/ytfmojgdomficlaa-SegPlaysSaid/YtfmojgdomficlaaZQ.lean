/-
  Texts of one hand, laid together: RefCopy, RefWithout, RefOpened, RefCrash, RefMerge, RefMergeD.
-/
import Derived.Test.YtfmojgdomficlaaZP
import Derived.Test.YtfmojgdomficlaaZM
set_option linter.unusedVariables false
set_option linter.unusedSimpArgs false
/-! A device is copied, as the reference does it. -/
namespace Go.Proofs.Ytfmojgdomficlaa
open Go.RowKit Go.Shelf Go.Proofs.YtfmojgdomficlaaW.PrintWords

/-- A file is being added to a device in a box. -/
def RGrewF (h0 : Nat) (b : Nat) (vf vl : Value) (rs : List RF) (d : SDisk) (v1 : Value) (rs' : List RF) (fs' : List SFile) (Z : World) : Prop :=
  ∃ Y, DBox h0 Y b vf vl rs d ∧ Y.grownBy Z vf.ownBlock ∧ Own kRF 62 Z h0 v1 rs' ∧ RowsOwn h0 Z rs' fs'
theorem RGrewF.later {h0 b : Nat} {vf vl : Value} {rs : List RF} {d : SDisk} {v1 : Value} {rs' : List RF} {fs' : List SFile} {Z Z' : World} (h : RGrewF h0 b vf vl rs d v1 rs' fs' Z) (hb : Below Z.heap.size Z Z') : RGrewF h0 b vf vl rs d v1 rs' fs' Z' := by
  obtain ⟨Y, h1, h2, h3, h4⟩ := h
  exact ⟨Y, h1, h2.trans (below_grown hb _), Kd.R_below h3 hb, h4.later hb⟩
theorem RGrewF.box {h0 b : Nat} {vf vl : Value} {rs : List RF} {d : SDisk} {v1 : Value} {rs' : List RF} {fs' : List SFile} {Z : World} (h : RGrewF h0 b vf vl rs d v1 rs' fs' Z) : Cells Z b #[vf, vl] 33 := by
  obtain ⟨Y, h1, h2, h3, h4⟩ := h
  exact h1.box.kept h2 h1.box_ne.1
theorem RGrewF.put {h0 b : Nat} {vf vl : Value} {rs : List RF} {d : SDisk} {v1 : Value} {rs' : List RF} {fs' : List SFile} {Z : World} (h : RGrewF h0 b vf vl rs d v1 rs' fs' Z) : DBox h0 (Z.setCell ⟨b, 0, none⟩ v1) b v1 vl rs' ⟨fs', d.list⟩ := by
  obtain ⟨Y, h1, h2, h3, h4⟩ := h
  exact h1.put_files h2 v1 rs' fs' h3 h4
theorem file_tyv {h0 : Nat} {w : World} {vf : Value} {rs : List RF} (h : Own kRF 62 w h0 vf rs) : ∀ k, vf.ownBlock = some k → ∃ cells t, w.heap[k]? = some (.cells cells t (0, 0)) ∧ t ≠ 83 := fun k hk => by
  obtain ⟨_, cs, hc⟩ := own_ty h hk
  exact ⟨cs, _, hc, by decide⟩
theorem rows_snoc_own {h0 : Nat} {X w1 : World} {vf : Value} {rs : List RF} {fs : List SFile} (hf : Own kRF 62 X h0 vf rs) (hr : RowsOwn h0 X rs fs) (hg : X.grownBy w1 vf.ownBlock) (r : RF) (f : SFile) (hno : r.no = f.no) (hsf : r.safe = f.safe) (hown : Own kSRec 83 X h0 r.v f.recs) (hnew : ∀ s ∈ rs, ∀ k, s.v.ownBlock = some k → r.v.ownBlock ≠ some k) : RowsOwn h0 w1 (rs ++ [r]) (fs ++ [f]) := by
  have hty := file_tyv hf
  exact (hr.other hg (fun k cells hk hc => by obtain ⟨_, _, hc', hne⟩ := hty k hk; rw [hc] at hc'; cases hc'; exact hne rfl)).snoc r f hno hsf (own_grown_ty flat_srec hown hg hty) hnew
theorem DBox.empty {h0 : Nat} {w : World} {b : Nat} (hb : h0 ≤ b) (hc : Cells w b #[.slice none 0 0, .slice none 0 0] 33) : DBox h0 w b (.slice none 0 0) (.slice none 0 0) [] ⟨[], []⟩ :=
  ⟨hb, hc, Kd.R_nil _ _ _ _ _, ⟨rfl, fun i r f hr => (by simp at hr), fun i j r s m hr => (by simp at hr)⟩, Kd.R_nil _ _ _ _ _⟩
theorem Cells.other {w : World} {b : Nat} {cs : Array Value} {t : TypeId} (h : Cells w b cs t) {p : Addr} (hne : b ≠ p.block) (v : Value) : Cells (w.setCell p v) b cs t := (Below.heap_setCell w p v b hne).trans h
/-- Two boxes of devices, and what lay below. -/
structure Boxes2 (w : World) (b1 b2 : Nat) (c1 c2 : Array Value) (X : World) : Prop where
  one : Cells X b1 c1 33
  two : Cells X b2 c2 33
  below : Below w.heap.size w X
theorem Boxes2.later {w : World} {b1 b2 : Nat} {c1 c2 : Array Value} {X Y : World} (h : Boxes2 w b1 b2 c1 c2 X) (hb : Below X.heap.size X Y) : Boxes2 w b1 b2 c1 c2 Y := ⟨h.one.later hb, h.two.later hb, below_step h.below hb⟩
theorem Boxes2.grown {w : World} {b1 b2 : Nat} {c1 c2 : Array Value} {X Y : World} (h : Boxes2 w b1 b2 c1 c2 X) {row : Option Nat} (hb : Below w.heap.size X Y) (hg : X.grownBy Y row) (hm : ∀ k, row = some k → ∃ cs t, X.heap[k]? = some (.cells cs t (0, 0)) ∧ t ≠ 33) : Boxes2 w b1 b2 c1 c2 Y :=
  have key : ∀ b cs, Cells X b cs 33 → some b ≠ row := fun b cs hc e => by
    obtain ⟨cs', t, hc', hne⟩ := hm b e.symm
    exact hne (cells_ty hc' hc)
  ⟨h.one.kept hg (key _ _ h.one), h.two.kept hg (key _ _ h.two), h.below.trans hb⟩
theorem Boxes2.set {w : World} {b1 b2 : Nat} {c1 c2 : Array Value} {X : World} (h : Boxes2 w b1 b2 c1 c2 X) {p : Addr} (h1 : b1 ≠ p.block) (h2 : b2 ≠ p.block) (h3 : w.heap.size ≤ p.block) (v : Value) : Boxes2 w b1 b2 c1 c2 (X.setCell p v) := ⟨h.one.other h1 v, h.two.other h2 v, h.below.setCell h3 v⟩
theorem file_tyd {h0 : Nat} {w : World} {vf : Value} {rs : List RF} (h : Own kRF 62 w h0 vf rs) : ∀ k, vf.ownBlock = some k → ∃ cells t, w.heap[k]? = some (.cells cells t (0, 0)) ∧ t ≠ 33 := fun k hk => by
  obtain ⟨_, cs, hc⟩ := own_ty h hk
  exact ⟨cs, _, hc, by decide⟩
set_option maxRecDepth 100000 in
set_option maxHeartbeats 8000000 in
theorem ref_Copy (d : SDisk) (Af Al : Option Addr) (cf cl : Nat) (w : World) (hd : DRows w Af cf Al cl d) (h1 : d.files.length * 40 ≤ 140737488355328) (h2 : d.list.length * 8 ≤ 140737488355328) (h3 : ∀ f ∈ d.files, f.recs.length * 64 ≤ 140737488355328) :
    Calls Try.prog 24 #[.agg #[.slice Af d.files.length cf, .slice Al d.list.length cl]] w fun e w' => ∃ vf vl rs, e = .returned (.agg #[vf, vl]) ∧ DVal w.heap.size w' vf vl rs d ∧ Below w.heap.size w w' := by
  have hm : d.files.length ≤ 9223372036854775807 := hd.files.2.1
  have hcf := hd.capf
  have Hd := Lib.hid hd
  clear hd
  go_enter Try.func24, Try.ntmps24
  go_upto_region 2 with fail
  obtain ⟨k1, k2, k3, hB⟩ := three_new w #[.slice Af d.files.length cf, .slice Al d.list.length cl] #[.slice none 0 0, .slice none 0 0] #[.slice none 0 0, .slice none 0 0] 33 33 33
  have KB := Lib.hid (show Boxes2 w w.heap.size (w.heap.size + 1) #[.slice Af d.files.length cf, .slice Al d.list.length cl] #[.slice none 0 0, .slice none 0 0] _ from ⟨k1, k2, hB⟩)
  have HD := Lib.hid (DBox.empty (h0 := w.heap.size) (by omega) k3)
  clear k1 k2 k3 hB
  generalize ((w.alloc (.cells #[.slice Af d.files.length cf, .slice Al d.list.length cl] 33)).alloc (.cells #[.slice none 0 0, .slice none 0 0] 33)).alloc (.cells #[.slice none 0 0, .slice none 0 0] 33) = w3 at KB HD ⊢
  generalize hBq : w.heap.size + 1 + 1 = B at HD ⊢
  have HBq := Lib.hid hBq
  clear hBq
  have q0 := KB.out.one.cell 0 _ rfl
  go_wp2
  clear q0
  go_loopw [9] (fun i wr => ∃ (k : Nat) (vf : Value) (rs : List RF), k ≤ d.files.length ∧ i = .int .i64 k ∧ Hid (Boxes2 w w.heap.size (w.heap.size + 1) #[.slice Af d.files.length cf, .slice Al d.list.length cl] #[.slice none 0 0, .slice none 0 0] wr) ∧ Hid (DBox w.heap.size wr B vf (.slice none 0 0) rs ⟨d.files.take k, []⟩)) (fun i _ => d.files.length - (intOf i).toNat)
  case atStart => exact ⟨0, _, _, Nat.zero_le _, rfl, KB, HD⟩
  case round =>
    obtain ⟨k, vf, rs, hk, rfl, KBk, HDk⟩ := hrel
    by_cases hlt : k < d.files.length
    · obtain ⟨f, ad, Ar, cr, -, htk, hget, rfl, e0, e1, e2, hcr, hrow⟩ := sfile_at (Kd.C_below Hd.out.files KBk.out.below) k hlt
      have hrl := h3 f (List.mem_of_getElem? hget)
      go_upto_region 5 with fail
      have HS := Lib.hid (Cells.new wr #[.int .i64 f.no, .slice Ar f.recs.length cr, .int .i64 f.safe] 62)
      have hbs := below_alloc (Below.refl wr.heap.size wr) (.cells #[.int .i64 f.no, .slice Ar f.recs.length cr, .int .i64 f.safe] 62)
      have HDs := Lib.hid (HDk.out.later hbs)
      have KBs := Lib.hid (KBk.out.later hbs)
      have Hrow := Lib.hid (Kd.C_below hrow hbs)
      have Htk := Lib.hid htk
      clear HDk KBk hrow e0 e1 e2 htk
      generalize wr.alloc (.cells #[.int .i64 f.no, .slice Ar f.recs.length cr, .int .i64 f.safe] 62) = ws at HS hbs HDs KBs Hrow ⊢
      generalize wr.heap.size = gs at HS ⊢
      clear hbs
      refine wp_region_flow [.free 0, .calm 1, .free 2, .calm 3, .free 4, .calm 5, .free 7, .calm 8, .group [6], .free 9, .group [10], .fence 11, .free 12, .fence 13] (Below ws.heap.size ws) (Below ws.heap.size ws) (stable_below _ _ (Nat.le_refl _)) (fun _ h => h) (by kernel_rfl) (by kernel_rfl) (below_drew1 (Below.refl _ _)) ?_
      simp only [pickEnts, pickF, List.getElem?_cons_succ, List.getElem?_cons_zero, List.filterMap_cons, List.filterMap_nil, Option.map_some]
      repeat ((first | refine flow_calm (fun K hK => ?_) | refine flow_free (fun K hK => ?_) | refine float_calm (fun K hK => ?_) | refine float_free (fun K hK => ?_)); go_simp; first | (refine hK _ ?_; clear hK K) | (apply Exists.intro; (refine ⟨fun X => ?_, hK _ ?_⟩); (first | (intro hC; rfl) | rfl | (intro hC; have x := HS.out.later hC.out; have c0 := x.cell 0 _ rfl; have c1 := x.cell 1 _ rfl; have c2 := x.cell 2 _ rfl; have y := HDs.out.box.later hC.out; have y0 := y.cell 0 _ rfl; go_simp; done) | (intro hC; have x := HS.out.later hC.out; have c0 := x.cell 0 _ rfl; have c1 := x.cell 1 _ rfl; have c2 := x.cell 2 _ rfl; have y := HDs.out.box.later hC.out; have y0 := y.cell 0 _ rfl; go_simp; rfl)); clear hK K))
      refine flow_one (fun v X => Own kSRec 83 X ws.heap.size v f.recs) (fun _ _ _ h hb => Kd.R_below h hb) ⟨rfl, fun X hX => ?_⟩ (fun v X0 hX0 hV0 => ?_)
      · refine makes_fresh kSRec ws.heap.size hX.out.size (.const (.slice none 0 0)) (.tmp 18) 60 83 (.agg #[.int .i64 0, .int .i64 0, .int .i64 0, .int .i64 0, .int .i64 0, .int .i64 0, .int .i64 0, .int .i64 0]) 64 rfl (by kernel_rfl) (by kernel_rfl) rfl (by decide) (by omega) f.recs Ar f.recs.length cr rfl rfl (Kd.C_below Hrow.out hX.out) (fun x cs h => srec_KM _ _ _ _ x cs h) hrl
      obtain ⟨A3, n3, c3, rfl⟩ := R_slice' hV0
      clear hX0 hV0
      repeat ((first | refine flow_calm (fun K hK => ?_) | refine flow_free (fun K hK => ?_) | refine float_calm (fun K hK => ?_) | refine float_free (fun K hK => ?_)); go_simp; first | (refine hK _ ?_; clear hK K) | (apply Exists.intro; (refine ⟨fun X => ?_, hK _ ?_⟩); (first | (intro hC; rfl) | rfl | (intro hC; skip; go_simp; done) | (intro hC; skip; go_simp; rfl)); clear hK K))
      refine flow_one (fun v X => ∃ B, v = .slice (some ⟨B, 0, none⟩) 1 1 ∧ Cells X B #[.int .i64 f.no, .slice A3 n3 c3, .int .i64 f.safe] 62) (fun _ _ _ h hb => by obtain ⟨B, h1, h2⟩ := h; exact ⟨B, h1, h2.later hb⟩) ⟨rfl, fun X hX => ?_⟩ (fun v X0 hX0 hV0 => ?_)
      · go_simp
        exact ⟨below_alloc (Below.refl _ _) _, Cells.new _ _ _⟩
      obtain ⟨B5, rfl, -⟩ := hV0
      clear hX0
      refine flow_fence rfl (fun X hX K hK => ?_)
      obtain ⟨⟨hb5, ho5⟩, B', hB', hcB⟩ := hX.out
      cases hB'
      have hD5 := HDs.out.later hb5
      have hK5 := KBs.out.later hb5
      have hsz : w.heap.size ≤ ws.heap.size := KBs.out.below.size
      refine Kd.R_append_rows_step kRF (w0 := X) w.heap.size (by rfl) (.tmp 14) (.tmp 23) 30 62 (.agg #[.int .i64 0, .slice none 0 0, .int .i64 0]) 40 rfl (by kernel_rfl) (by kernel_rfl) rfl (by decide) (by omega) vf rs [⟨f.no, A3, n3, c3, f.safe⟩] _ _ _ (fun _ => True) (fun _ => False) rfl rfl hD5.files (lit_row kRF X B5 ⟨f.no, A3, n3, c3, f.safe⟩ [.int .i64 f.no, .slice A3 n3 c3, .int .i64 f.safe] 62 hcB (kRF.K_of_M (kRF_mkM X 0 (fun _ => False) ⟨f.no, A3, n3, c3, f.safe⟩))) (fun x cs h => rf_KM _ _ _ _ x cs h) (fun _ h => h.elim) (fun _ _ => trivial) (Below.refl _ _) (Nat.le_trans hsz hb5.size) (by have := hD5.rows.len; simp only [List.length_take] at this; omega) ?_
      intro v1 w1 r1 r2 r3 r4
      obtain ⟨A1, n1, c1, rfl⟩ := R_slice' r1
      have hnew : ∀ s ∈ rs, ∀ m, s.v.ownBlock = some m → (Value.slice A3 n3 c3).ownBlock ≠ some m := fun s hs m hm e => by
        obtain ⟨_, cs, hc⟩ := HDs.out.rows.typed hs hm
        have h1 := (own_ty ho5 e).1
        have h2 := (Array.getElem?_eq_some_iff.1 hc).1
        omega
      have hrows := rows_snoc_own hD5.files hD5.rows r3 ⟨f.no, A3, n3, c3, f.safe⟩ f rfl rfl (Kd.R_lower ho5 hsz) hnew
      have hk1 := hK5.grown r2 r3 (file_tyd hD5.files)
      have hG : RGrewF w.heap.size B vf (.slice none 0 0) rs ⟨d.files.take k, []⟩ (.slice A1 n1 c1) (rs ++ [⟨f.no, A3, n3, c3, f.safe⟩]) (d.files.take (k + 1)) w1 := ⟨X, hD5, r3, r1, by rw [Htk.out]; exact hrows⟩
      refine hK.out _ _ (fun Z => Boxes2 w w.heap.size (w.heap.size + 1) #[.slice (some ad) d.files.length cf, .slice Al d.list.length cl] #[.slice none 0 0, .slice none 0 0] Z ∧ RGrewF w.heap.size B vf (.slice none 0 0) rs ⟨d.files.take k, []⟩ (.slice A1 n1 c1) (rs ++ [⟨f.no, A3, n3, c3, f.safe⟩]) (d.files.take (k + 1)) Z) (fun Z => Boxes2 w w.heap.size (w.heap.size + 1) #[.slice (some ad) d.files.length cf, .slice Al d.list.length cl] #[.slice none 0 0, .slice none 0 0] Z ∧ RGrewF w.heap.size B vf (.slice none 0 0) rs ⟨d.files.take k, []⟩ (.slice A1 n1 c1) (rs ++ [⟨f.no, A3, n3, c3, f.safe⟩]) (d.files.take (k + 1)) Z) (fun Z Z' hZ hb => ⟨hZ.1.later hb, hZ.2.later hb⟩) (fun _ h => h) ⟨hk1, hG⟩ ?_
      clear hK K hX hb5 ho5 hcB hD5 hK5 r1 r2 r3 r4 hrows hk1 hG hnew
      repeat ((first | refine flow_calm (fun K hK => ?_) | refine flow_free (fun K hK => ?_) | refine float_calm (fun K hK => ?_) | refine float_free (fun K hK => ?_)); go_simp; first | (refine hK _ ?_; clear hK K) | (apply Exists.intro; (refine ⟨fun X => ?_, hK _ ?_⟩); (first | (intro hC; rfl) | rfl | (intro hC; skip; go_simp; done) | (intro hC; skip; go_simp; rfl)); clear hK K))
      refine flow_fence rfl (fun X hX K hK => ?_)
      have hbx := hX.out.2.box
      have k0 := hbx.cell 0 _ rfl
      have kf := hbx.frozen 0
      go_simp
      have hfin := hX.out.2.put
      have hkb := hX.out.1.set (p := ⟨B, 0, none⟩) (by simp only; have := HBq.out; omega) (by simp only; have := HBq.out; omega) (by simp only; have := HBq.out; omega) (.slice A1 n1 c1)
      refine hK.out _ _ (fun Z => Boxes2 w w.heap.size (w.heap.size + 1) #[.slice (some ad) d.files.length cf, .slice Al d.list.length cl] #[.slice none 0 0, .slice none 0 0] Z ∧ DBox w.heap.size Z B (.slice A1 n1 c1) (.slice none 0 0) (rs ++ [⟨f.no, A3, n3, c3, f.safe⟩]) ⟨d.files.take (k + 1), []⟩) (fun Z => Boxes2 w w.heap.size (w.heap.size + 1) #[.slice (some ad) d.files.length cf, .slice Al d.list.length cl] #[.slice none 0 0, .slice none 0 0] Z ∧ DBox w.heap.size Z B (.slice A1 n1 c1) (.slice none 0 0) (rs ++ [⟨f.no, A3, n3, c3, f.safe⟩]) ⟨d.files.take (k + 1), []⟩) (fun Z Z' hZ hb => ⟨hZ.1.later hb, hZ.2.later hb⟩) (fun _ h => h) ⟨hkb, hfin⟩ ?_
      refine flow_nil ?_
      intro Y hY
      obtain ⟨hY1, hY2⟩ := hY.out
      clear hY hX hbx k0 kf hfin hkb hK K
      go_wp2
      exact ⟨⟨k + 1, _, _, by omega, by go_num, Lib.hid hY1, Lib.hid hY2⟩, by simp [intOf]; omega⟩
    · have hkl : k = d.files.length := by omega
      subst hkl
      rw [List.take_length] at HDk
      have q1 := KBk.out.one.cell 1 _ rfl
      have HDb := Lib.hid KBk.out.below
      have x0 := HDk.out.box.cell 0 _ rfl
      have x1 := HDk.out.box.cell 1 _ rfl
      obtain ⟨A0, n0, c0, rfl⟩ := R_slice' HDk.out.files
      have hsz : w.heap.size ≤ wr.heap.size := HDb.out.size
      clear x0 x1
      go_wp2_with (at_builtin; refine Kd.R_append_rows (Kd.int .i64) (w0 := w) w.heap.size rfl _ _ 31 3 (.int .i64 0) 8 rfl (by kernel_rfl) (by kernel_rfl) rfl (by decide) (by omega) (.slice none 0 0) ([] : List Int) d.list _ _ _ (fun _ => True) (fun _ => False) rfl rfl (Kd.R_nil _ _ _ _ _) (Kd.C_below Hd.out.list HDb.out) (fun x cs h => int_KM _ _ _ _ x cs h) (fun _ h => h.elim) (fun _ _ => trivial) HDb.out hsz (by simp only [List.length_nil]; omega) ?_; intro v2 w2 r1 r2 r3 r4; obtain ⟨A2, n2, c2, rfl⟩ := R_slice' r1; have hb2 : Below wr.heap.size wr w2 := fresh_below r3; have hx2 := HDk.out.box.later hb2; have x0 := hx2.cell 0 _ rfl; have x1 := hx2.cell 1 _ rfl; have xf := hx2.frozen 1; have hkb2 := KBk.out.later hb2; have z0 := hkb2.two.cell 0 _ rfl; have z1 := hkb2.two.cell 1 _ rfl; have zf0 := hkb2.two.frozen 0; have zf1 := hkb2.two.frozen 1; have hBn1 : ¬ B = w.heap.size + 1 := (by have := HBq.out; omega); have hBn2 : ¬ w.heap.size + 1 = B := (by have := HBq.out; omega); have zz1 : (w2.setCell ⟨B, 1, none⟩ (.slice A2 n2 c2)).cell? ⟨w.heap.size + 1, 1, none⟩ = some (.slice none 0 0) := (hkb2.two.other (p := ⟨B, 1, none⟩) hBn2 _).cell 1 _ rfl)
      have hput := (HDk.out.later hb2).put_list (vl' := .slice A2 n2 c2) (l := d.list) (World.grownBy.refl w2 _) (by simpa using r1)
      have hk3 := hkb2.set (p := ⟨B, 1, none⟩) (by simp only; have := HBq.out; omega) (by simp only; have := HBq.out; omega) (by simp only; have := HBq.out; omega) (.slice A2 n2 c2)
      have hv := (hput.val.set hk3.two RowTy.disk 0 (.slice A0 n0 c0)).set (hk3.two.setAt 0 (.slice A0 n0 c0)) RowTy.disk 1 (.slice A2 n2 c2)
      have y2 := (hk3.two.setAt 0 (.slice A0 n0 c0)).setAt 1 (.slice A2 n2 c2)
      have y0 := y2.cell 0 _ rfl
      have y1 := y2.cell 1 _ rfl
      refine bodyPost_ret (v := .agg #[.slice A0 n0 c0, .slice A2 n2 c2]) (by simp [results, Try.results24, go_sem, y0, y1]) rfl ?_
      exact ⟨_, _, _, rfl, hv, (hk3.below.setCell (p := ⟨w.heap.size + 1, 0, none⟩) (by simp) _).setCell (p := ⟨w.heap.size + 1, 1, none⟩) (by simp) _⟩
end Go.Proofs.Ytfmojgdomficlaa
set_option linter.unusedVariables false
set_option linter.unusedSimpArgs false
/-! A device without two files, as the reference has it. -/
namespace Go.Proofs.Ytfmojgdomficlaa
open Go.RowKit Go.Shelf Go.Proofs.YtfmojgdomficlaaW.PrintWords

set_option maxRecDepth 100000 in
set_option maxHeartbeats 8000000 in
theorem ref_without (d : SDisk) (h0 : Nat) (vf vl : Value) (rs : List RF) (x y : Int) (w : World) (hd : DVal h0 w vf vl rs d) (hs : d.files.length ≤ 100000) (hh : h0 ≤ w.heap.size) :
    Calls Try.prog 101 #[.agg #[vf, vl], .int .i64 x, .int .i64 y] w (ValPost h0 (dropD d fun no => !(no == x) && !(no == y)) w) := by
  obtain ⟨Af, cf, Al, cl, rfl, rfl, hda⟩ := hd.reads
  have hln := hd.rows.len
  have hm : rs.length ≤ 100000 := by omega
  have Hln := Lib.hid hln
  clear hda hln
  go_enter Try.func101, Try.ntmps101
  go_upto_region 1 with fail
  obtain ⟨k1, k2, hB⟩ := two_new w ((w.alloc (.cells #[.slice Af d.files.length cf, .slice Al d.list.length cl] 33)).alloc (.cells #[.slice none 0 0, .slice none 0 0] 33)) _ _ _ _ (by simpa using Below.refl _ _)
  have K2 := Lib.hid k2
  have HB := Lib.hid hB
  have HD := Lib.hid ((hd.later hB).box hh k1)
  clear k1 k2 hB hd
  generalize ((w.alloc (.cells #[.slice Af d.files.length cf, .slice Al d.list.length cl] 33)).alloc (.cells #[.slice none 0 0, .slice none 0 0] 33)) = w2 at K2 HB HD ⊢
  have c0 := HD.out.box.cell 0 _ rfl
  go_wp2
  clear c0
  go_loopw [7, 13] (fun v i wr => ∃ k : Nat, k ≤ d.files.length ∧ i = .int .i64 k ∧ Own kRF 62 wr w2.heap.size v ((rs.take k).filter fun r => !(r.no == x) && !(r.no == y)) ∧ Below w2.heap.size w2 wr) (fun _ i _ => d.files.length - (intOf i).toNat)
  case atStart => exact ⟨0, Nat.zero_le _, rfl, Kd.R_nil _ _ _ _ _, Below.refl _ _⟩
  case round =>
    obtain ⟨k, hk, rfl, hown, hB⟩ := hrel
    obtain ⟨A0, n0, e0, rfl⟩ := R_slice' hown
    by_cases hlt : k < d.files.length
    · obtain ⟨r, hr⟩ : ∃ r, rs[k]? = some r := ⟨_, List.getElem?_eq_getElem (by rw [Hln.out]; exact hlt)⟩
      obtain ⟨g, cf', hvf, hg0, hgl, g0, g1, g2, gf'⟩ := HD.out.cells hr
      injection hvf with e1 e2 e3
      subst e1
      have htk : (rs.take (k + 1)).filter (fun r => !(r.no == x) && !(r.no == y)) = (rs.take k).filter (fun r => !(r.no == x) && !(r.no == y)) ++ (if (!(r.no == x) && !(r.no == y)) = true then [r] else []) := by
        rw [List.take_succ_eq_append_getElem (by rw [Hln.out]; exact hlt), List.filter_append]
        have : rs[k]'(by rw [Hln.out]; exact hlt) = r := by rw [List.getElem?_eq_getElem (by rw [Hln.out]; exact hlt)] at hr; exact Option.some.inj hr
        rw [this]
        by_cases hp : (!(r.no == x) && !(r.no == y)) = true <;> simp [hp]
      have hlk : ((rs.take k).filter fun r => !(r.no == x) && !(r.no == y)).length ≤ 100000 := by have := List.length_filter_le (fun r : RF => !(r.no == x) && !(r.no == y)) (rs.take k); have := List.length_take_le k rs; omega
      obtain ⟨rno, rA, rn, rc, rsafe⟩ := r
      have q0 : wr.cell? ⟨g, k * 3, none⟩ = some (.int .i64 rno) := cell_keep hB g0
      have q1 : wr.cell? ⟨g, k * 3 + 1, none⟩ = some (.slice rA rn rc) := cell_keep hB g1
      have q2 : wr.cell? ⟨g, k * 3 + 2, none⟩ = some (.int .i64 rsafe) := cell_keep hB g2
      have Htk := Lib.hid htk
      simp only at Htk
      clear hr g0 g1 g2 gf' htk e2 e3
      have hways : ((rno != x) = false ∧ (!(rno == x) && !(rno == y)) = false) ∨ ((rno != x) = true ∧ (rno != y) = false ∧ (!(rno == x) && !(rno == y)) = false) ∨ ((rno != x) = true ∧ (rno != y) = true ∧ (!(rno == x) && !(rno == y)) = true) := by
        unfold bne; cases (rno == x) <;> cases (rno == y) <;> simp
      rcases hways with ⟨h1, hp⟩ | ⟨h1, h2, hp⟩ | ⟨h1, h2, hp⟩
      · rw [hp] at Htk
        have Hown := Lib.hid hown
        clear hown hp
        go_wp2
        have hB2 := below_alloc hB (.cells #[.int .i64 rno, .slice rA rn rc, .int .i64 rsafe] 62)
        exact ⟨⟨k + 1, by omega, by go_num, by rw [Htk.out]; simpa using Kd.R_below Hown.out (below_alloc (Below.refl _ _) _), hB2⟩, by simp [intOf]; omega⟩
      · rw [hp] at Htk
        have Hown := Lib.hid hown
        clear hown hp
        go_wp2
        have hB2 := below_alloc hB (.cells #[.int .i64 rno, .slice rA rn rc, .int .i64 rsafe] 62)
        exact ⟨⟨k + 1, by omega, by go_num, by rw [Htk.out]; simpa using Kd.R_below Hown.out (below_alloc (Below.refl _ _) _), hB2⟩, by simp [intOf]; omega⟩
      · rw [hp] at Htk
        have hB2 := below_alloc hB (.cells #[.int .i64 rno, .slice rA rn rc, .int .i64 rsafe] 62)
        have Ho2 := Lib.hid (Kd.R_below hown (below_alloc (Below.refl _ _) (.cells #[.int .i64 rno, .slice rA rn rc, .int .i64 rsafe] 62)))
        clear hown hp
        go_wp2_with (at_builtin; refine Kd.R_append kRF (w0 := wr.alloc (.cells #[.int .i64 rno, .slice rA rn rc, .int .i64 rsafe] 62)) w2.heap.size rfl _ _ 30 62 (.agg #[.int .i64 0, .slice none 0 0, .int .i64 0]) 40 rfl (by kernel_rfl) (by kernel_rfl) rfl (by decide) (by omega) (.slice A0 n0 e0) ((rs.take k).filter fun r => !(r.no == x) && !(r.no == y)) ⟨rno, rA, rn, rc, rsafe⟩ [.int .i64 rno, .slice rA rn rc, .int .i64 rsafe] (fun _ => True) (fun _ => False) rfl (by simp [Act.eval]) (kRF_mkM _ _ _ _) (fun _ h => h.elim) (fun _ _ => trivial) Ho2.out (Below.refl _ _) hB2.size (by omega) ?_; intro v1 w4 r1 r2 r3 r4)
        exact ⟨⟨k + 1, by omega, by go_num, by rw [Htk.out]; simpa using r1, hB2.trans r2⟩, by simp [intOf]; omega⟩
    · have hkl : k = rs.length := by rw [Hln.out]; omega
      rw [hkl, List.take_length] at hown
      have Hown := Lib.hid hown
      clear hown
      have hDr := HD.out.later hB
      have hc0 := hDr.box.cell 0 _ rfl
      have hc1 := hDr.box.cell 1 _ rfl
      have hcf := hDr.box.frozen
      have hk2 := K2.out.later hB
      have z0 := hk2.cell 0 _ rfl
      have z1 := hk2.cell 1 _ rfl
      have zf := hk2.frozen
      have HDr := Lib.hid hDr
      have Hk2 := Lib.hid hk2
      have HBr := Lib.hid (below_step HB.out hB)
      have hsz := Nat.le_trans hh HB.out.size
      clear hDr hk2
      go_wp2
      have hfin := HDr.out.put_files (below_grown (Below.refl _ _) _) (.slice A0 n0 e0) _ (dropD d fun no => !(no == x) && !(no == y)).files (Kd.R_lower Hown.out hsz) (HDr.out.rows.filter fun no => !(no == x) && !(no == y))
      have hk3 := Hk2.out.other (p := ⟨w.heap.size, 0, none⟩) (by simp) (.slice A0 n0 e0)
      have hv := (hfin.val.set hk3 RowTy.disk 0 (.slice A0 n0 e0)).set (hk3.setAt 0 (.slice A0 n0 e0)) RowTy.disk 1 (.slice Al d.list.length cl)
      have y2 := (hk3.setAt 0 (.slice A0 n0 e0)).setAt 1 (.slice Al d.list.length cl)
      have y0 := y2.cell 0 _ rfl
      have y1 := y2.cell 1 _ rfl
      refine bodyPost_ret (v := .agg #[.slice A0 n0 e0, .slice Al d.list.length cl]) (by simp [results, Try.results101, go_sem, y0, y1]) rfl ?_
      exact ⟨_, _, _, rfl, hv, .of (((HBr.out.setCell (p := ⟨w.heap.size, 0, none⟩) (Nat.le_refl _) _).setCell (p := ⟨w.heap.size + 1, 0, none⟩) (by simp) _).setCell (p := ⟨w.heap.size + 1, 1, none⟩) (by simp) _) hh⟩
end Go.Proofs.Ytfmojgdomficlaa
set_option linter.unusedVariables false
set_option linter.unusedSimpArgs false
/-! A device that is opened again, as the reference has it. -/
namespace Go.Proofs.Ytfmojgdomficlaa
open Go.RowKit Go.Shelf Go.Proofs.YtfmojgdomficlaaW.PrintWords

def openRF (r : RF) (f : SFile) : RF := ⟨r.no, r.A, (goodOf f.recs).length, r.c, (goodOf f.recs).length⟩
theorem zip_get {rs : List RF} {fs : List SFile} (hl : rs.length = fs.length) {i : Nat} {r : RF} (h : (List.zipWith openRF rs fs)[i]? = some r) : ∃ a f, rs[i]? = some a ∧ fs[i]? = some f ∧ r = openRF a f := by
  rw [List.getElem?_zipWith] at h
  cases ha : rs[i]? with
  | none => rw [ha] at h; cases hf : fs[i]? <;> rw [hf] at h <;> cases h
  | some a =>
    cases hf : fs[i]? with
    | none => rw [ha, hf] at h; cases h
    | some f => rw [ha, hf] at h; cases h; exact ⟨a, f, rfl, rfl, rfl⟩
theorem openRF_own (a : RF) (g : SFile) : (openRF a g).v.ownBlock = a.v.ownBlock := by
  obtain ⟨ano, aA, an, ac, as_⟩ := a
  cases aA <;> rfl
theorem RowsOwn.opened {h0 : Nat} {w : World} {rs : List RF} {fs : List SFile} (h : RowsOwn h0 w rs fs) : RowsOwn h0 w (List.zipWith openRF rs fs) (fs.map openedF) := by
  have hl := h.len
  refine ⟨by simp [hl], fun i r f hr hf => ?_, fun i j r s k hr hs hk1 hk2 => ?_⟩
  · obtain ⟨a, g, ha, hg, rfl⟩ := zip_get hl hr
    rw [List.getElem?_map, hg] at hf
    cases hf
    obtain ⟨r1, r2, r3⟩ := h.rel i a g ha hg
    refine ⟨r1, rfl, ?_⟩
    obtain ⟨A', c', he, -, -⟩ := own_reads' r3
    obtain ⟨ano, aA, an, ac, as_⟩ := a
    injection he with e1 e2 e3
    subst e2
    have := Kd.R_take r3 (goodOf_le g.recs)
    rw [← goodOf_take] at this
    exact this
  · obtain ⟨a, g, ha, hg, rfl⟩ := zip_get hl hr
    obtain ⟨a', g', ha', hg', rfl⟩ := zip_get hl hs
    exact h.apart i j a a' k ha ha' (openRF_own a g ▸ hk1) (openRF_own a' g' ▸ hk2)
theorem zip_snoc {rs : List RF} {fs : List SFile} (hl : rs.length = fs.length) (r : RF) (f : SFile) : List.zipWith openRF (rs ++ [r]) (fs ++ [f]) = List.zipWith openRF rs fs ++ [openRF r f] := by
  rw [List.zipWith_append hl]; rfl
/-- The files behind the first ones. -/
def openTo (d : SDisk) (rs : List RF) (k : Nat) : List RF := List.zipWith openRF ((rs.take k).filter fun r => d.list.contains r.no) ((d.files.take k).filter fun f => d.list.contains f.no)
theorem openTo_succ {h0 : Nat} {w : World} {rs : List RF} {d : SDisk} (h : RowsOwn h0 w rs d.files) {k : Nat} {r : RF} {f : SFile} (hr : rs[k]? = some r) (hf : d.files[k]? = some f) : openTo d rs (k + 1) = openTo d rs k ++ (if d.list.contains f.no = true then [openRF r f] else []) := by
  have hno := (h.rel k r f hr hf).1
  obtain ⟨h1, e1⟩ := List.getElem?_eq_some_iff.1 hr
  obtain ⟨h2, e2⟩ := List.getElem?_eq_some_iff.1 hf
  have hl : ((rs.take k).filter fun r => d.list.contains r.no).length = ((d.files.take k).filter fun f => d.list.contains f.no).length := by
    obtain ⟨-, -, -, hh⟩ := filter_idx (fun no => d.list.contains no) (rs.take k) (d.files.take k) (by rw [List.length_take, List.length_take, h.len]) (fun i r f hr hf => by
      rw [List.getElem?_take] at hr hf
      split at hr
      · rename_i hi; rw [if_pos hi] at hf; exact (h.rel i r f hr hf).1
      · cases hr)
    exact hh
  unfold openTo
  rw [List.take_succ_eq_append_getElem h1, List.take_succ_eq_append_getElem h2, List.filter_append, List.filter_append, e1, e2]
  cases hc : d.list.contains f.no
  · rw [List.filter_cons_of_neg (by rw [hno, hc]; simp), List.filter_cons_of_neg (by rw [hc]; simp)]
    simp
  · rw [List.filter_cons_of_pos (by rw [hno, hc]), List.filter_cons_of_pos (by rw [hc]), List.filter_nil, List.filter_nil, zip_snoc hl]
    rfl
theorem openTo_len {d : SDisk} (rs : List RF) (k : Nat) : (openTo d rs k).length ≤ d.files.length := by
  unfold openTo
  rw [List.length_zipWith]
  have := List.length_filter_le (fun f : SFile => d.list.contains f.no) (d.files.take k)
  have : (d.files.take k).length ≤ d.files.length := by rw [List.length_take]; omega
  omega
theorem openTo_all {h0 : Nat} {w : World} {rs : List RF} {d : SDisk} (h : RowsOwn h0 w rs d.files) : RowsOwn h0 w (openTo d rs d.files.length) (reopenD d).files := by
  unfold openTo
  rw [List.take_length, List.take_of_length_le (by rw [h.len]; exact Nat.le_refl _)]
  exact (h.filter fun no => d.list.contains no).opened
theorem contains_take (l : List Int) (m : Nat) (no x : Int) (hx : l[m]? = some x) : (l.take (m + 1)).contains no = ((l.take m).contains no || (no == x)) := by
  obtain ⟨h1, e1⟩ := List.getElem?_eq_some_iff.1 hx
  rw [List.take_succ_eq_append_getElem h1, e1]
  rw [List.contains_append]
  congr 1
  simp only [List.contains_cons, List.contains_nil, Bool.or_false]
theorem take_nodup {l : List Int} (h : l.Nodup) {m : Nat} {x : Int} (hx : l[m]? = some x) : (l.take m).contains x = false := by
  obtain ⟨h1, e1⟩ := List.getElem?_eq_some_iff.1 hx
  have h2 : (l.take (m + 1)).Nodup := h.sublist (List.take_sublist _ _)
  rw [List.take_succ_eq_append_getElem h1, e1] at h2
  have := (List.nodup_append.1 h2).2.2
  cases hc : (l.take m).contains x with
  | false => rfl
  | true => exact absurd rfl (this x (by simpa using hc) x (by simp))
set_option maxRecDepth 100000 in
set_option maxHeartbeats 8000000 in
theorem ref_opened (d : SDisk) (h0 : Nat) (vf vl : Value) (rs : List RF) (w : World) (hd : DVal h0 w vf vl rs d) (hs : d.files.length ≤ 100000) (hnd : d.list.Nodup) (hh : h0 ≤ w.heap.size) :
    Calls Try.prog 95 #[.agg #[vf, vl]] w (ValPost h0 (reopenD d) w) := by
  obtain ⟨Af, cf, Al, cl, rfl, rfl, hda⟩ := hd.reads
  have Hda := Lib.hid hda
  have hcl := hda.capl
  have hml : d.list.length ≤ 9223372036854775807 := hda.list.2.1
  have Hrows := Lib.hid hd.rows
  clear hda
  go_enter Try.func95, Try.ntmps95
  go_upto_region 1 with fail
  obtain ⟨k1, k2, hB⟩ := two_new w ((w.alloc (.cells #[.slice Af d.files.length cf, .slice Al d.list.length cl] 33)).alloc (.cells #[.slice none 0 0, .slice none 0 0] 33)) _ _ _ _ (by simpa using Below.refl _ _)
  have K2 := Lib.hid k2
  have HB := Lib.hid hB
  have HD := Lib.hid ((hd.later hB).box hh k1)
  clear k1 k2 hB hd
  generalize ((w.alloc (.cells #[.slice Af d.files.length cf, .slice Al d.list.length cl] 33)).alloc (.cells #[.slice none 0 0, .slice none 0 0] 33)) = w2 at K2 HB HD ⊢
  have c0 := HD.out.box.cell 0 _ rfl
  go_wp2
  clear c0
  go_loopw [3, 12] (fun v i wr => ∃ k : Nat, k ≤ d.files.length ∧ i = .int .i64 k ∧ Own kRF 62 wr w2.heap.size v (openTo d rs k) ∧ Below w2.heap.size w2 wr) (fun _ i _ => d.files.length - (intOf i).toNat)
  case atStart => exact ⟨0, Nat.zero_le _, rfl, Kd.R_nil _ _ _ _ _, Below.refl _ _⟩
  case round =>
    obtain ⟨k, hk, rfl, hown, hB⟩ := hrel
    obtain ⟨A0, n0, e0, rfl⟩ := R_slice' hown
    by_cases hlt : k < d.files.length
    · obtain ⟨f, ad, Ar, cr, -, -, hget, hAf, e0', e1', e2', hcr, hrow⟩ := sfile_at (Kd.C_below Hda.out.files HB.out) k hlt
      subst hAf
      obtain ⟨r, hr⟩ : ∃ r, rs[k]? = some r := ⟨_, List.getElem?_eq_getElem (by rw [Hrows.out.len]; exact hlt)⟩
      obtain ⟨g, cf', hvf, hg0, hgl, g0, g1, g2, gf'⟩ := HD.out.cells hr
      have hsucc := openTo_succ Hrows.out hr hget
      obtain ⟨r1, r2, r3⟩ := Hrows.out.rel k r f hr hget
      obtain ⟨rno, rA, rn, rc, rsafe⟩ := r
      injection hvf with e1 e2 e3
      injection e1 with e1
      subst e1 e3
      have hAr : Value.slice Ar f.recs.length cr = .slice rA rn rc := by
        have h1 := g1
        have : (⟨g, 0, none⟩ : Addr).add (k * 3) = ⟨g, k * 3, none⟩ := add_plain _ _
        rw [this] at e1'
        exact Option.some.inj (e1'.symm.trans h1)
      injection hAr with a1 a2 a3
      subst a1 a2 a3
      have Hsucc := Lib.hid hsucc
      simp only at r1 r2
      subst r1 r2
      have q0 : wr.cell? ⟨g, k * 3, none⟩ = some (.int .i64 f.no) := cell_keep hB g0
      have q1 : wr.cell? ⟨g, k * 3 + 1, none⟩ = some (.slice Ar f.recs.length cr) := cell_keep hB g1
      have q2 : wr.cell? ⟨g, k * 3 + 2, none⟩ = some (.int .i64 f.safe) := cell_keep hB g2
      clear g0 g1 g2 gf' hr hsucc r3 e0' e1' e2'
      have hlen := openTo_len (d := d) rs k
      have h0a := (Nat.le_trans HB.out.size hB.size : w.heap.size ≤ wr.heap.size)
      go_upto_region 5 with fail
      have HS := Lib.hid (Cells.new wr #[.int .i64 f.no, .slice Ar f.recs.length cr, .int .i64 f.safe] 62)
      have hbs := below_alloc (Below.refl wr.heap.size wr) (.cells #[.int .i64 f.no, .slice Ar f.recs.length cr, .int .i64 f.safe] 62)
      have Hown := Lib.hid (Kd.R_below hown hbs)
      have Hrow := Lib.hid hrow
      have hgn : ∀ m, (Value.slice A0 n0 e0).ownBlock = some m → m ≠ wr.heap.size := fun m hm e => by obtain ⟨_, cs, hc⟩ := own_ty hown hm; have := (Array.getElem?_eq_some_iff.1 hc).1; omega
      have HBs := Lib.hid (below_step hB hbs)
      clear hown hrow q0 q1 q2 hB
      generalize wr.alloc (.cells #[.int .i64 f.no, .slice Ar f.recs.length cr, .int .i64 f.safe] 62) = ws at HS hbs Hown HBs ⊢
      generalize wr.heap.size = gs at HS hgn ⊢
      clear hbs
      have hd1 := (HD.out.later HBs.out).box.cell 1 _ rfl
      go_wp2
      clear hd1
      go_loopw [3, 19] (fun v j wx => ∃ m : Nat, m ≤ d.list.length ∧ j = .int .i64 m ∧ Own kRF 62 wx w2.heap.size v (openTo d rs k ++ (if (d.list.take m).contains f.no = true then [openRF ⟨f.no, Ar, f.recs.length, cr, f.safe⟩ f] else [])) ∧ Hid (Cells wx gs #[.int .i64 f.no, .slice Ar f.recs.length cr, .int .i64 f.safe] 62) ∧ (∀ m, v.ownBlock = some m → m ≠ gs) ∧ Below w2.heap.size w2 wx) (fun _ j _ => d.list.length - (intOf j).toNat)
      case atStart => exact ⟨0, Nat.zero_le _, rfl, by simpa using Hown.out, HS, hgn, HBs.out⟩
      case round =>
        obtain ⟨m, hm, rfl, hownx, HSx, hgx, hBw⟩ := hrel
        obtain ⟨A1, n1, c1, rfl⟩ := R_slice' hownx
        by_cases hlm : m < d.list.length
        · obtain ⟨x, al, -, -, hx, hal, x0⟩ := int_at (Kd.C_below Hda.out.list (below_step HB.out hBw)) m hlm
          have hct := contains_take d.list m f.no x hx
          have hsx := HSx.out
          have s0 := hsx.cell 0 _ rfl
          have s1 := hsx.cell 1 _ rfl
          have s2 := hsx.cell 2 _ rfl
          by_cases hxe : x = f.no
          · have hnc := take_nodup hnd hx
            rw [hxe] at hct hnc x0
            rw [hnc] at hct hownx
            have Hct := Lib.hid (show (d.list.take (m + 1)).contains f.no = true by rw [hct]; simp)
            have hb : (f.no == f.no) = true := by simp
            have Hownx := Lib.hid (show Own kRF 62 _ w2.heap.size (.slice A1 n1 c1) (openTo d rs k) from (by simpa using hownx))
            have Hrx := Lib.hid (Kd.C_below Hrow.out hBw)
            subst hal
            clear hct hnc hx hownx hxe
            go_wp2_with (first
              | (go_at_call 52; (with_reducible refine (ref_good f.no f.safe Ar cr f.recs _ Hrx.out hcr).mono ?_); rintro e w4 ⟨rfl, hb4⟩; have Ho4 := Lib.hid (Kd.R_below Hownx.out hb4); have hB4 := below_step hBw hb4; have HS4 := Lib.hid (HSx.out.later hb4))
              | (at_builtin; refine Kd.R_append kRF (w0 := w4) w2.heap.size rfl _ _ 30 62 (.agg #[.int .i64 0, .slice none 0 0, .int .i64 0]) 40 rfl (by kernel_rfl) (by kernel_rfl) rfl (by decide) (by omega) (.slice A1 n1 c1) (openTo d rs k) (openRF ⟨f.no, Ar, f.recs.length, cr, f.safe⟩ f) [.int .i64 f.no, .slice Ar (goodOf f.recs).length cr, .int .i64 (goodOf f.recs).length] (fun _ => True) (fun _ => False) rfl rfl (kRF_mkM _ _ _ _) (fun _ h => h.elim) (fun _ _ => trivial) Ho4.out (Below.refl _ _) hB4.size (by omega) ?_; intro v1 w6 r1 r2 r3 r4))
            exact ⟨⟨m + 1, by omega, by go_num, by rw [Hct.out, if_pos rfl]; exact r1, Lib.hid (HS4.out.kept r3 (fun e => hgx _ e.symm rfl)), fun m hm e => by
              rcases r4 with r4 | ⟨b, hb, hle⟩
              · exact hgx m (r4 ▸ hm) e
              · rw [hb] at hm; cases hm; have := HS4.out.lt; omega, hB4.trans r2⟩, by simp [intOf]; omega⟩
          · have hb : (x == f.no) = false := by simpa using hxe
            have Hct := Lib.hid (show (d.list.take (m + 1)).contains f.no = (d.list.take m).contains f.no by rw [hct, show (f.no == x) = false by simpa using Ne.symm hxe]; simp)
            subst hal
            have Hownx := Lib.hid hownx
            clear hct hx hxe hownx
            go_wp2
            exact ⟨⟨m + 1, by omega, by go_num, by rw [Hct.out]; exact Hownx.out, HSx, hgx, hBw⟩, by simp [intOf]; omega⟩
        · have hml : m = d.list.length := by omega
          subst hml
          rw [List.take_length] at hownx
          have Hownx := Lib.hid hownx
          clear hownx
          go_wp2
          exact ⟨⟨k + 1, by omega, by go_num, by rw [Hsucc.out]; exact Hownx.out, hBw⟩, by simp [intOf]; omega⟩
    · have hkl : k = d.files.length := by omega
      rw [hkl] at hown
      have Hown := Lib.hid hown
      clear hown
      have hDr := HD.out.later hB
      have hc0 := hDr.box.cell 0 _ rfl
      have hc1 := hDr.box.cell 1 _ rfl
      have hcf := hDr.box.frozen
      have hk2 := K2.out.later hB
      have z0 := hk2.cell 0 _ rfl
      have z1 := hk2.cell 1 _ rfl
      have zf := hk2.frozen
      have HDr := Lib.hid hDr
      have Hk2 := Lib.hid hk2
      have HBr := Lib.hid (below_step HB.out hB)
      have hsz := Nat.le_trans hh HB.out.size
      clear hDr hk2
      go_wp2
      have hfin := HDr.out.put_files (below_grown (Below.refl _ _) _) (.slice A0 n0 e0) _ (reopenD d).files (Kd.R_lower Hown.out hsz) (openTo_all HDr.out.rows)
      have hk3 := Hk2.out.other (p := ⟨w.heap.size, 0, none⟩) (by simp) (.slice A0 n0 e0)
      have hv := (hfin.val.set hk3 RowTy.disk 0 (.slice A0 n0 e0)).set (hk3.setAt 0 (.slice A0 n0 e0)) RowTy.disk 1 (.slice Al d.list.length cl)
      have y2 := (hk3.setAt 0 (.slice A0 n0 e0)).setAt 1 (.slice Al d.list.length cl)
      have y0 := y2.cell 0 _ rfl
      have y1 := y2.cell 1 _ rfl
      refine bodyPost_ret (v := .agg #[.slice A0 n0 e0, .slice Al d.list.length cl]) (by simp [results, Try.results95, go_sem, y0, y1]) rfl ?_
      exact ⟨_, _, _, rfl, hv, .of (((HBr.out.setCell (p := ⟨w.heap.size, 0, none⟩) (Nat.le_refl _) _).setCell (p := ⟨w.heap.size + 1, 0, none⟩) (by simp) _).setCell (p := ⟨w.heap.size + 1, 1, none⟩) (by simp) _) hh⟩
end Go.Proofs.Ytfmojgdomficlaa
set_option linter.unusedVariables false
set_option linter.unusedSimpArgs false
/-! A device behind a crash, as the reference has it. -/
namespace Go.Proofs.Ytfmojgdomficlaa
open Go.RowKit Go.Shelf Go.Proofs.YtfmojgdomficlaaW.PrintWords

section
variable {h0 : Nat} {w w' : World} {b : Nat} {vf vl : Value} {rs : List RF} {d : SDisk}
/-- A record's sum is turned. -/
theorem DBox.poke (h : DBox h0 w b vf vl rs d) {i : Nat} {r : RF} {f : SFile} (hr : rs[i]? = some r) (hf : d.files[i]? = some f) {gr m c : Nat} (hv : r.v = .slice (some ⟨gr, 0, none⟩) m c) {n : Nat} {x : SRec} (hx : f.recs[n]? = some x) (s : Int) :
    DBox h0 (w.setCell ⟨gr, n * 8 + 7, none⟩ (.int .i64 s)) b vf vl rs ⟨d.files.set i ⟨f.no, f.recs.set n ⟨x.news, s⟩, f.safe⟩, d.list⟩ := by
  have hfl := (List.getElem?_eq_some_iff.1 hf).1
  obtain ⟨r1, r2, r3⟩ := h.rows.rel i r f hr hf
  have hgr : r.v.ownBlock = some gr := by rw [hv]; rfl
  obtain ⟨_, cr, hcr⟩ := own_ty r3 hgr
  have far : ∀ (k : Nat), k ≠ gr → (w.setCell ⟨gr, n * 8 + 7, none⟩ (.int .i64 s)).heap[k]? = w.heap[k]? := fun k hk => Below.heap_setCell w ⟨gr, n * 8 + 7, none⟩ (.int .i64 s) k hk
  have hset := own_setK kSRec (fun x => [.int .i64 x.news.do_, .int .i64 x.news.src, .int .i64 x.news.id, .int .i64 x.news.ver, .int .i64 x.news.body.at_, .int .i64 x.news.body.key, .int .i64 x.news.body.val, .int .i64 x.sum]) (fun _ _ _ h => kSRec_open h) (fun _ _ _ x => kSRec_mkM _ _ _ x) (hv ▸ r3) hx ⟨x.news, s⟩ 7 (by decide) (.int .i64 s) rfl
  refine ⟨h.hb, (far b (ty_ne (show w.heap[b]? = _ from h.box) hcr (by decide))).trans h.box, own_step flat_rf h.files (fun k hk => ?_), ⟨by simp [h.rows.len], fun j t y ht hy => ?_, h.rows.apart⟩, own_step flat_int h.list (fun k hk => ?_)⟩
  · obtain ⟨_, hc⟩ := h.file_ne hk
    exact far k (ty_ne hc hcr (by decide))
  · by_cases hj : j = i
    · subst hj
      rw [List.getElem?_set_self hfl] at hy
      rw [hr] at ht
      cases hy; cases ht
      exact ⟨r1, r2, by rw [hv]; exact hset.1⟩
    · rw [List.getElem?_set_ne (Ne.symm hj)] at hy
      obtain ⟨s1, s2, s3⟩ := h.rows.rel j t y ht hy
      exact ⟨s1, s2, own_step flat_srec s3 (fun k hk => far k (fun e => hj (h.rows.apart j i t r k ht hr hk (e ▸ hgr))))⟩
  · obtain ⟨_, hc⟩ := h.list_ty hk
    exact far k (ty_ne hc hcr (by decide))
end
/-- The reference's box is at work: what it turns. -/
structure Work (h0 : Nat) (w0 : World) (b b2 : Nat) (vf vl : Value) (rs : List RF) (d : SDisk) (X : World) : Prop where
  db : DBox h0 X b vf vl rs d
  two : Cells X b2 #[.slice none 0 0, .slice none 0 0] 33
  kp : Kp h0 w0 X
theorem Work.later {h0 : Nat} {w0 : World} {b b2 : Nat} {vf vl : Value} {rs : List RF} {d : SDisk} {X Y : World} (h : Work h0 w0 b b2 vf vl rs d X) (hb : Below X.heap.size X Y) (hh : h0 ≤ w0.heap.size) : Work h0 w0 b b2 vf vl rs d Y := ⟨h.db.later hb, h.two.later hb, h.kp.later hb (Nat.le_trans hh h.kp.size)⟩
set_option maxRecDepth 100000 in
set_option maxHeartbeats 8000000 in
theorem ref_crash (d : SDisk) (h0 : Nat) (vf vl : Value) (rs : List RF) (i : Nat) (k : Int) (torn : Bool) (w : World) (hd : DVal h0 w vf vl rs d) (ho : OpenOk d i) (hk0 : 0 ≤ k) (hs0 : 0 ≤ (fileAt d i).safe) (hs1 : (fileAt d i).safe ≤ (fileAt d i).recs.length) (hrl : (fileAt d i).recs.length ≤ 100000) (hh : h0 ≤ w.heap.size) :
    Calls Try.prog 94 #[.agg #[vf, vl], .int .i64 k, .bool torn] w (ValPost h0 (crashD d i k torn) w) := by
  have hil := ho.lt
  have hf := fileAt_get hil
  obtain ⟨r, hr⟩ : ∃ r, rs[i]? = some r := ⟨_, List.getElem?_eq_getElem (by rw [hd.rows.len]; exact hil)⟩
  obtain ⟨r1, r2, r3⟩ := hd.rows.rel i r _ hr hf
  obtain ⟨Af, cf, Al, cl, rfl, rfl, hda⟩ := hd.reads
  obtain ⟨rno, rA, rn, rc, rsafe⟩ := r
  simp only at r1 r2
  subst r1 r2
  obtain rfl : rn = (fileAt d i).recs.length := by
    obtain ⟨A', c', he, -, -⟩ := own_reads' r3
    injection he
  go_enter Try.func94, Try.ntmps94
  go_upto_region 1 with fail
  obtain ⟨k1, k2, hB⟩ := two_new w ((w.alloc (.cells #[.slice Af d.files.length cf, .slice Al d.list.length cl] 33)).alloc (.cells #[.slice none 0 0, .slice none 0 0] 33)) _ _ _ _ (by simpa using Below.refl _ _)
  have HW := Lib.hid (show Work h0 w w.heap.size (w.heap.size + 1) (.slice Af d.files.length cf) (.slice Al d.list.length cl) rs d _ from ⟨(hd.later hB).box hh k1, k2, .of hB hh⟩)
  have HB := Lib.hid hB
  have Hda := Lib.hid (hda.later hB)
  clear k1 k2 hB hd hda
  generalize ((w.alloc (.cells #[.slice Af d.files.length cf, .slice Al d.list.length cl] 33)).alloc (.cells #[.slice none 0 0, .slice none 0 0] 33)) = w2 at HW HB Hda ⊢
  obtain ⟨g, cf', hvf, hg0, hgl, g0, g1, g2, gf⟩ := HW.out.db.cells hr
  injection hvf with e1 e2 e3
  subst e1 e3
  have hpl : placeOf d.files (openNo d) = (i : Int) := by rw [placeOf, ho.at_]
  have Hpl := Lib.hid hpl
  have Hr := Lib.hid hr
  have Hf := Lib.hid hf
  have Ho := Lib.hid ho
  have Hr3 := Lib.hid r3
  have hsub : IntKind.i64.wrap (((fileAt d i).recs.length : Int) - (fileAt d i).safe) = (fileAt d i).recs.length - (fileAt d i).safe := by rw [IntWalk.i64_in _ (by omega)]
  have hleft : (fileAt d i).safe + (if ((fileAt d i).recs.length : Int) - (fileAt d i).safe < k then ((fileAt d i).recs.length : Int) - (fileAt d i).safe else k) = (leftOf (fileAt d i) k : Nat) := by
    unfold leftOf
    split <;> split <;> omega
  generalize hleq : leftOf (fileAt d i) k = left at hleft
  have hln : left ≤ (fileAt d i).recs.length := by
    split at hleft <;> omega
  have hadd : IntKind.i64.wrap ((fileAt d i).safe + (if ((fileAt d i).recs.length : Int) - (fileAt d i).safe < k then ((fileAt d i).recs.length : Int) - (fileAt d i).safe else k)) = (left : Int) := by rw [IntWalk.i64_in _ (by rw [hleft]; omega)]; exact hleft
  have Hsub := Lib.hid hsub
  have Hadd := Lib.hid hadd
  have Hleq := Lib.hid hleq
  have hm : d.files.length ≤ 9223372036854775807 := Hda.out.files.2.1
  have hcf := Hda.out.capf
  have G1 := Lib.hid (show w2.cell? ⟨g, i * 3 + 1, none⟩ = some (.slice rA (fileAt d i).recs.length rc) from g1)
  have G2 := Lib.hid (show w2.cell? ⟨g, i * 3 + 2, none⟩ = some (.int .i64 (fileAt d i).safe) from g2)
  have Gf := Lib.hid gf
  clear hr hf ho r3 hsub hadd hleft hleq g0 g1 g2 gf hpl
  refine wp_region_flow [.free 0, .calm 1, .calm 2, .calm 3, .calm 4, .calm 5, .free 6, .free 7] (Below w2.heap.size w2) (Below w2.heap.size w2) (stable_below _ _ (Nat.le_refl _)) (fun _ h => h) (by kernel_rfl) (by kernel_rfl) (below_drew1 (Below.refl _ _)) ?_
  simp only [pickEnts, pickF, List.getElem?_cons_succ, List.getElem?_cons_zero, List.filterMap_cons, List.filterMap_nil, Option.map_some]
  repeat ((first | refine flow_calm (fun K hK => ?_) | refine flow_free (fun K hK => ?_) | refine float_calm (fun K hK => ?_) | refine float_free (fun K hK => ?_)); go_simp; first | (refine hK _ ?_; clear hK K) | (apply Exists.intro; (refine ⟨fun X => ?_, hK _ ?_⟩); (first | (intro hC; rfl) | rfl | (intro hC; have q := HW.out.db.box.later hC.out; have q0 := q.cell 0 _ rfl; have q1 := q.cell 1 _ rfl; go_simp; done) | (intro hC; have q := HW.out.db.box.later hC.out; have q0 := q.cell 0 _ rfl; have q1 := q.cell 1 _ rfl; go_simp; rfl) | (intro hC; (with_reducible refine (ref_open d _ _ cf cl _ Ho.out.ne (Hda.out.later hC.out)).mono ?_); rintro e w' ⟨rfl, hb⟩; exact ⟨rfl, hb⟩) | (intro hC; (with_reducible refine (ref_file d _ _ cf cl (openNo d) _ (Hda.out.later hC.out)).mono ?_); rintro e w' ⟨rfl, hb⟩; rw [Hpl.out]; exact ⟨rfl, hb⟩)); clear hK K))
  refine flow_nil ?_
  intro X hX
  have hbX := hX.out
  clear hX
  go_wp2
  refine wp_region_flow [.free 0, .free 1, .free 2, .calm 3, .free 4, .free 5, .free 6, .free 7, .calm 8, .free 9, .free 10, .free 11, .free 12, .calm 13, .free 14, .free 15, .free 16, .free 17] (Below X.heap.size X) (Below X.heap.size X) (stable_below _ _ (Nat.le_refl _)) (fun _ h => h) (by kernel_rfl) (by kernel_rfl) (below_drew1 (Below.refl _ _)) ?_
  simp only [pickEnts, pickF, List.getElem?_cons_succ, List.getElem?_cons_zero, List.filterMap_cons, List.filterMap_nil, Option.map_some]
  repeat ((first | refine flow_calm (fun K hK => ?_) | refine flow_free (fun K hK => ?_) | refine float_calm (fun K hK => ?_) | refine float_free (fun K hK => ?_)); go_simp; (try simp only [Hsub.out, Hadd.out]); first | (refine hK _ ?_; clear hK K) | (apply Exists.intro; (refine ⟨fun X => ?_, hK _ ?_⟩); (first | (intro hC; rfl) | rfl | (intro hC; have q1 : X.cell? ⟨g, i * 3 + 1, none⟩ = _ := cell_keep (below_step hbX hC.out) G1.out; have q2 : X.cell? ⟨g, i * 3 + 2, none⟩ = _ := cell_keep (below_step hbX hC.out) G2.out; go_simp; done) | (intro hC; have q1 : X.cell? ⟨g, i * 3 + 1, none⟩ = _ := cell_keep (below_step hbX hC.out) G1.out; have q2 : X.cell? ⟨g, i * 3 + 2, none⟩ = _ := cell_keep (below_step hbX hC.out) G2.out; go_simp; rfl)); clear hK K))
  refine flow_nil ?_
  intro Y hY
  generalize (if ((fileAt d i).recs.length : Int) - (fileAt d i).safe < k then ((fileAt d i).recs.length : Int) - (fileAt d i).safe else k) = mn at Hadd ⊢
  replace hbX := below_step hbX hY.out
  clear hY
  have q1 : Y.cell? ⟨g, i * 3 + 1, none⟩ = _ := cell_keep hbX G1.out
  by_cases htl : torn = true ∧ left < (fileAt d i).recs.length
  · obtain ⟨rfl, htl⟩ := htl
    have hdl : decide ((left : Int) < (fileAt d i).recs.length) = true := by simp; exact htl
    obtain ⟨x, hx⟩ : ∃ x, (fileAt d i).recs[left]? = some x := ⟨_, List.getElem?_eq_getElem htl⟩
    obtain ⟨gr, hrA, hgr0, hgrl, hgc, hgf⟩ := own_cellsK kSRec (fun x => [.int .i64 x.news.do_, .int .i64 x.news.src, .int .i64 x.news.id, .int .i64 x.news.ver, .int .i64 x.news.body.at_, .int .i64 x.news.body.key, .int .i64 x.news.body.val, .int .i64 x.sum]) (fun _ _ _ h => kSRec_open h) (fun _ => rfl) (Kd.R_below Hr3.out HB.out) hx
    subst hrA
    have Z : ∀ X, Below w2.heap.size w2 X → X.cell? ⟨gr, left * 8, none⟩ = some (.int .i64 x.news.do_) ∧ X.cell? ⟨gr, left * 8 + 1, none⟩ = some (.int .i64 x.news.src) ∧ X.cell? ⟨gr, left * 8 + 2, none⟩ = some (.int .i64 x.news.id) ∧ X.cell? ⟨gr, left * 8 + 3, none⟩ = some (.int .i64 x.news.ver) ∧ X.cell? ⟨gr, left * 8 + 4, none⟩ = some (.int .i64 x.news.body.at_) ∧ X.cell? ⟨gr, left * 8 + 5, none⟩ = some (.int .i64 x.news.body.key) ∧ X.cell? ⟨gr, left * 8 + 6, none⟩ = some (.int .i64 x.news.body.val) ∧ X.cell? ⟨gr, left * 8 + 7, none⟩ = some (.int .i64 x.sum) := fun X hb => ⟨cell_keep hb (hgc 0 _ rfl), cell_keep hb (hgc 1 _ rfl), cell_keep hb (hgc 2 _ rfl), cell_keep hb (hgc 3 _ rfl), cell_keep hb (hgc 4 _ rfl), cell_keep hb (hgc 5 _ rfl), cell_keep hb (hgc 6 _ rfl), cell_keep hb (hgc 7 _ rfl)⟩
    have HZ := Lib.hid Z
    have Hgf := Lib.hid hgf
    have Hx := Lib.hid hx
    have hrcl : (fileAt d i).recs.length ≤ rc := by
      obtain ⟨A', c', he, hc, -⟩ := own_reads' Hr3.out
      injection he with _ _ e
      have e' : rc = c' := e
      rw [e']; exact hc
    have hs0' : 0 ≤ segSum x.news := (segPart_bd x.news 7).1
    have hs1' : segSum x.news < 9973 := (segPart_bd x.news 7).2
    have hm1 : IntKind.i64.wrap (segSum x.news + 1) = segSum x.news + 1 := by rw [IntWalk.i64_in _ (by omega)]
    have hm2 : (segSum x.news + 1).tmod 9973 = (segSum x.news + 1) % 9973 := Int.tmod_eq_emod_of_nonneg (by omega)
    have hm3 : IntKind.i64.wrap ((segSum x.news + 1) % 9973) = (segSum x.news + 1) % 9973 := by rw [IntWalk.i64_in _ (by omega)]
    have hm4 : IntKind.i64.wrap ((left : Int) + 1) = (left : Int) + 1 := by rw [IntWalk.i64_in _ (by omega)]
    have Hm1 := Lib.hid hm1
    have Hm2 := Lib.hid hm2
    have Hm3 := Lib.hid hm3
    have Hm4 := Lib.hid hm4
    clear Z hgf hx hm1 hm2 hm3 hm4 hgc
    go_upto_region 4 with fail
    clear q1
    refine wp_region_flow [.free 0, .free 1, .free 2, .calm 3, .free 4, .free 5, .free 6, .free 7, .calm 8, .free 9, .free 10, .free 11, .calm 12, .calm 13, .free 14, .free 15, .free 16, .free 17, .fence 18] (Below Y.heap.size Y) (Below Y.heap.size Y) (stable_below _ _ (Nat.le_refl _)) (fun _ h => h) (by kernel_rfl) (by kernel_rfl) (below_drew1 (Below.refl _ _)) ?_
    simp only [pickEnts, pickF, List.getElem?_cons_succ, List.getElem?_cons_zero, List.filterMap_cons, List.filterMap_nil, Option.map_some]
    repeat ((first | refine flow_calm (fun K hK => ?_) | refine flow_free (fun K hK => ?_) | refine float_calm (fun K hK => ?_) | refine float_free (fun K hK => ?_)); go_simp; (try simp only [Hm1.out, Hm2.out, Hm3.out]); first | (refine hK _ ?_; clear hK K) | (apply Exists.intro; (refine ⟨fun X => ?_, hK _ ?_⟩); (first | (intro hC; rfl) | rfl | (intro hC; have q1 : X.cell? ⟨g, i * 3 + 1, none⟩ = _ := cell_keep (below_step hbX hC.out) G1.out; obtain ⟨z0, z1, z2, z3, z4, z5, z6, z7⟩ := HZ.out X (below_step hbX hC.out); go_simp; done) | (intro hC; have q1 : X.cell? ⟨g, i * 3 + 1, none⟩ = _ := cell_keep (below_step hbX hC.out) G1.out; obtain ⟨z0, z1, z2, z3, z4, z5, z6, z7⟩ := HZ.out X (below_step hbX hC.out); go_simp; rfl) | (intro hC; (with_reducible refine (ref_Sum x.news _).mono ?_); rintro e w' ⟨rfl, hb⟩; exact ⟨rfl, hb⟩)); clear hK K))
    refine flow_fence rfl (fun X hX K hK => ?_)
    obtain ⟨-, -, -, -, -, -, -, z7⟩ := HZ.out X (below_step hbX hX.out)
    have zf : X.frozen? ⟨gr, left * 8 + 7, none⟩ = false := ((bcell (below_step hbX hX.out)).2 gr _ hgrl).trans (Hgf.out _)
    have hWX := HW.out.later (below_step hbX hX.out) hh
    go_simp
    have hP0 := hWX.db.poke Hr.out Hf.out rfl Hx.out ((segSum x.news + 1) % 9973)
    have hW1 : Work h0 w w.heap.size (w.heap.size + 1) (.slice (some ⟨g, 0, none⟩) d.files.length cf) (.slice Al d.list.length cl) rs ⟨d.files.set i ⟨(fileAt d i).no, (fileAt d i).recs.set left (badOf x.news), (fileAt d i).safe⟩, d.list⟩ (X.setCell ⟨gr, left * 8 + 7, none⟩ (.int .i64 ((segSum x.news + 1) % 9973))) := by
      obtain ⟨_, cx, hcx⟩ := hWX.db.rows.typed (List.mem_of_getElem? Hr.out) (k := gr) rfl
      exact ⟨hP0, hWX.two.other (p := ⟨gr, left * 8 + 7, none⟩) (ty_ne (show _ from hWX.two) hcx (by decide)) _, hWX.kp.setCell (p := ⟨gr, left * 8 + 7, none⟩) hgr0 ⟨_, _, hcx, .inr (.inr (.inl rfl))⟩ _⟩
    refine hK.out _ _ (Work h0 w w.heap.size (w.heap.size + 1) (.slice (some ⟨g, 0, none⟩) d.files.length cf) (.slice Al d.list.length cl) rs ⟨d.files.set i ⟨(fileAt d i).no, (fileAt d i).recs.set left (badOf x.news), (fileAt d i).safe⟩, d.list⟩) (Work h0 w w.heap.size (w.heap.size + 1) (.slice (some ⟨g, 0, none⟩) d.files.length cf) (.slice Al d.list.length cl) rs ⟨d.files.set i ⟨(fileAt d i).no, (fileAt d i).recs.set left (badOf x.news), (fileAt d i).safe⟩, d.list⟩) (fun Z Z' hZ hb => hZ.later hb hh) (fun _ h => h) hW1 ?_
    refine flow_nil ?_
    intro V hV
    have HW1 := Lib.hid hV.out
    clear hV hW1 hP0 hWX zf z7 hK K hX
    have Hf1 := Lib.hid (show ((⟨d.files.set i ⟨(fileAt d i).no, (fileAt d i).recs.set left (badOf x.news), (fileAt d i).safe⟩, d.list⟩ : SDisk).files)[i]? = some ⟨(fileAt d i).no, (fileAt d i).recs.set left (badOf x.news), (fileAt d i).safe⟩ from List.getElem?_set_self hil)
    have hn1 : left + 1 ≤ ((fileAt d i).recs.set left (badOf x.news)).length := by rw [List.length_set]; omega
    have Ho1 := Lib.hid (HW1.out.db.rows.rel i _ _ Hr.out Hf1.out).2.2
    have hlc : left + 1 ≤ rc := by omega
    have htake : ((fileAt d i).recs.set left (badOf x.news)).take (left + 1) = (fileAt d i).recs.take left ++ [badOf x.news] := by
      rw [List.take_succ_eq_append_getElem (by rw [List.length_set]; exact htl), List.getElem_set_self, List.take_set_of_le (Nat.le_refl _)]
    have hkp : keptOf (fileAt d i) k true = (fileAt d i).recs.take left ++ [badOf x.news] := by
      rw [keptOf, Hleq.out, if_pos ⟨rfl, htl⟩, Hx.out]; rfl
    have Hfin := Lib.hid (show crashD d i k true = ⟨d.files.set i ⟨(fileAt d i).no, ((fileAt d i).recs.set left (badOf x.news)).take (left + 1), (left : Int) + 1⟩, d.list⟩ by
      have hl : ((fileAt d i).recs.take left ++ [badOf x.news]).length = left + 1 := by rw [List.length_append, List.length_take, Nat.min_eq_left (by omega)]; rfl
      rw [crashD, hkp, htake, hl]
      rfl)
    clear htake hkp
    have hm4 := Hm4.out
    have hlcI : (left : Int) + 1 ≤ rc := by omega
    have hlc0 : (0 : Int) ≤ (left : Int) + 1 := by omega
    obtain ⟨g', cf2, hvf2, -, hgl2, t0, t1, t2, tf⟩ := HW1.out.db.cells Hr.out
    injection hvf2 with e1 e2 e3
    injection e1 with e1
    injection e1 with e1
    subst e1
    clear e2 e3
    have tf1 := tf (i * 3 + 1)
    have tf2 := tf (i * 3 + 2)
    have b0 := HW1.out.db.box.cell 0 _ rfl
    have b1 := HW1.out.db.box.cell 1 _ rfl
    have z0 := HW1.out.two.cell 0 _ rfl
    have z1 := HW1.out.two.cell 1 _ rfl
    have zf := HW1.out.two.frozen
    obtain ⟨_, cfx, hcfx⟩ := own_ty HW1.out.db.files (k := g) rfl
    have hgb : g ≠ w.heap.size := ty_ne hcfx (show _ from HW1.out.db.box) (by decide)
    have hgb2 : g ≠ w.heap.size + 1 := ty_ne hcfx (show _ from HW1.out.two) (by decide)
    have hgb' : w.heap.size ≠ g := Ne.symm hgb
    have hgb2' : w.heap.size + 1 ≠ g := Ne.symm hgb2
    clear t0 tf
    go_upto_region 8 with fail
    clear b0 b1 z0 z1 zf t1 t2 tf1 tf2
    have hP := HW1.out.db.put_recs Hr.out Hf1.out rfl (World.grownBy.refl _ _) ⟨(fileAt d i).no, (some ⟨gr, 0, none⟩), (left + 1), rc, (fileAt d i).safe⟩ rfl rfl (((fileAt d i).recs.set left (badOf x.news)).take (left + 1)) (Kd.R_take Ho1.out hn1) (.inl (rfl))
    have hil2 : i < rs.length := (List.getElem?_eq_some_iff.1 Hr.out).1
    have hil3 : i < (⟨d.files.set i ⟨(fileAt d i).no, (fileAt d i).recs.set left (badOf x.news), (fileAt d i).safe⟩, d.list⟩ : SDisk).files.length := (List.getElem?_eq_some_iff.1 Hf1.out).1
    have hP2 := hP.put_safe (i := i) (r := ⟨(fileAt d i).no, (some ⟨gr, 0, none⟩), (left + 1), rc, (fileAt d i).safe⟩) (f := ⟨(fileAt d i).no, ((fileAt d i).recs.set left (badOf x.news)).take (left + 1), (fileAt d i).safe⟩) (List.getElem?_set_self hil2) (List.getElem?_set_self hil3) rfl ((left : Int) + 1 : Int)
    simp only [List.set_set] at hP2
    have hT := (HW1.out.two.other (p := ⟨g, i * 3 + 1, none⟩) hgb2' (.slice (some ⟨gr, 0, none⟩) (left + 1) rc)).other (p := ⟨g, i * 3 + 2, none⟩) hgb2' (.int .i64 ((left : Int) + 1 : Int))
    have hKp := (HW1.out.kp.setCell (p := ⟨g, i * 3 + 1, none⟩) hg0 HW1.out.db.mineF (.slice (some ⟨gr, 0, none⟩) (left + 1) rc)).setCell (p := ⟨g, i * 3 + 2, none⟩) hg0 (mine_set HW1.out.db.mineF _ _) (.int .i64 ((left : Int) + 1 : Int))
    have HP2 := Lib.hid hP2
    have HT := Lib.hid hT
    have HKp := Lib.hid hKp
    clear hP hP2 hT hKp
    generalize ((V.setCell ⟨g, i * 3 + 1, none⟩ (.slice (some ⟨gr, 0, none⟩) (left + 1) rc)).setCell ⟨g, i * 3 + 2, none⟩ (.int .i64 ((left : Int) + 1 : Int))) = V2 at HP2 HT HKp ⊢
    have b0 := HP2.out.box.cell 0 _ rfl
    have b1 := HP2.out.box.cell 1 _ rfl
    have z0 := HT.out.cell 0 _ rfl
    have z1 := HT.out.cell 1 _ rfl
    have zf := HT.out.frozen
    clear hil2 hil3 hn1 hlcI hlc0 hm4 hlc hcfx hgb hgb' hgb2 hgb2' htl hdl hs0' hs1' hrcl hgr0 hgrl
    generalize (Value.pointer (some ⟨g, i * 3, none⟩)) = u0
    generalize (Value.pointer (some ⟨g, i * 3 + 1, none⟩)) = u1
    generalize (Value.pointer (some ⟨g, i * 3 + 2, none⟩)) = u2
    generalize (Value.slice (some ⟨gr, 0, none⟩) (fileAt d i).recs.length rc) = u3
    generalize (Value.int .i64 ((fileAt d i).recs.length : Int)) = u4
    generalize (Value.int .i64 (((fileAt d i).recs.length : Int) - (fileAt d i).safe)) = u5
    generalize (Value.int .i64 (fileAt d i).safe) = u6
    generalize (Value.int .i64 mn) = u7
    generalize (Value.int .i64 (left : Int)) = u8
    generalize (Value.agg #[.slice (some ⟨g, 0, none⟩) d.files.length cf, .slice Al d.list.length cl]) = u9
    generalize (Value.slice (some ⟨g, 0, none⟩) d.files.length cf) = u10
    go_wp2
    have hv := (HP2.out.val.set HT.out RowTy.disk 0 (.slice (some ⟨g, 0, none⟩) d.files.length cf)).set (HT.out.setAt 0 (.slice (some ⟨g, 0, none⟩) d.files.length cf)) RowTy.disk 1 (.slice Al d.list.length cl)
    have y2 := (HT.out.setAt 0 (.slice (some ⟨g, 0, none⟩) d.files.length cf)).setAt 1 (.slice Al d.list.length cl)
    have y0 := y2.cell 0 _ rfl
    have y1 := y2.cell 1 _ rfl
    refine bodyPost_ret (v := .agg #[.slice (some ⟨g, 0, none⟩) d.files.length cf, .slice Al d.list.length cl]) (by simp [results, Try.results94, go_sem, y0, y1]) rfl ?_
    rw [Hfin.out]
    exact ⟨_, _, _, rfl, hv, (HKp.out.setFresh (p := ⟨w.heap.size + 1, 0, none⟩) (by simp) hh _).setFresh (p := ⟨w.heap.size + 1, 1, none⟩) (by simp) hh _⟩
  · have hWY := HW.out.later hbX hh
    have HW1 := Lib.hid hWY
    have hn1 : left ≤ (fileAt d i).recs.length := hln
    have Hf1 := Hf
    have Ho1 := Lib.hid (hWY.db.rows.rel i _ _ Hr.out Hf.out).2.2
    have hkp : keptOf (fileAt d i) k torn = (fileAt d i).recs.take left := by rw [keptOf, Hleq.out, if_neg htl, List.append_nil]
    have Hfin := Lib.hid (show crashD d i k torn = ⟨d.files.set i ⟨(fileAt d i).no, (fileAt d i).recs.take left, (left : Int)⟩, d.list⟩ by
      rw [crashD, hkp, List.length_take, Nat.min_eq_left hln])
    have hrcl : (fileAt d i).recs.length ≤ rc := by
      obtain ⟨A', c', he, hc, -⟩ := own_reads' Hr3.out
      injection he with _ _ e
      have e' : rc = c' := e
      rw [e']; exact hc
    have hlcI : (left : Int) ≤ rc := by omega
    have hlc0 : (0 : Int) ≤ (left : Int) := by omega
    have hways : torn = false ∨ (torn = true ∧ decide (left < (fileAt d i).recs.length) = false) := by
      cases torn
      · exact .inl rfl
      · exact .inr ⟨rfl, by simp only [decide_eq_false_iff_not]; exact fun h => htl ⟨rfl, by omega⟩⟩
    clear hkp hWY htl q1
    rcases hways with rfl | ⟨rfl, hdl⟩
    all_goals
      obtain ⟨g', cf2, hvf2, -, hgl2, t0, t1, t2, tf⟩ := HW1.out.db.cells Hr.out
      injection hvf2 with e1 e2 e3
      injection e1 with e1
      injection e1 with e1
      subst e1
      clear e2 e3
      have tf1 := tf (i * 3 + 1)
      have tf2 := tf (i * 3 + 2)
      have b0 := HW1.out.db.box.cell 0 _ rfl
      have b1 := HW1.out.db.box.cell 1 _ rfl
      have z0 := HW1.out.two.cell 0 _ rfl
      have z1 := HW1.out.two.cell 1 _ rfl
      have zf := HW1.out.two.frozen
      obtain ⟨_, cfx, hcfx⟩ := own_ty HW1.out.db.files (k := g) rfl
      have hgb : g ≠ w.heap.size := ty_ne hcfx (show _ from HW1.out.db.box) (by decide)
      have hgb2 : g ≠ w.heap.size + 1 := ty_ne hcfx (show _ from HW1.out.two) (by decide)
      have hgb' : w.heap.size ≠ g := Ne.symm hgb
      have hgb2' : w.heap.size + 1 ≠ g := Ne.symm hgb2
      clear t0 tf
      go_upto_region 8 with fail
      clear b0 b1 z0 z1 zf t1 t2 tf1 tf2
      have hP := HW1.out.db.put_recs Hr.out Hf1.out rfl (World.grownBy.refl _ _) ⟨(fileAt d i).no, rA, left, rc, (fileAt d i).safe⟩ rfl rfl ((fileAt d i).recs.take left) (Kd.R_take Ho1.out hn1) (.inl (by cases rA <;> rfl))
      have hil2 : i < rs.length := (List.getElem?_eq_some_iff.1 Hr.out).1
      have hil3 : i < (d : SDisk).files.length := (List.getElem?_eq_some_iff.1 Hf1.out).1
      have hP2 := hP.put_safe (i := i) (r := ⟨(fileAt d i).no, rA, left, rc, (fileAt d i).safe⟩) (f := ⟨(fileAt d i).no, (fileAt d i).recs.take left, (fileAt d i).safe⟩) (List.getElem?_set_self hil2) (List.getElem?_set_self hil3) rfl ((left : Int) : Int)
      simp only [List.set_set] at hP2
      have hT := (HW1.out.two.other (p := ⟨g, i * 3 + 1, none⟩) hgb2' (.slice rA left rc)).other (p := ⟨g, i * 3 + 2, none⟩) hgb2' (.int .i64 ((left : Int) : Int))
      have hKp := (HW1.out.kp.setCell (p := ⟨g, i * 3 + 1, none⟩) hg0 HW1.out.db.mineF (.slice rA left rc)).setCell (p := ⟨g, i * 3 + 2, none⟩) hg0 (mine_set HW1.out.db.mineF _ _) (.int .i64 ((left : Int) : Int))
      have HP2 := Lib.hid hP2
      have HT := Lib.hid hT
      have HKp := Lib.hid hKp
      clear hP hP2 hT hKp
      generalize ((Y.setCell ⟨g, i * 3 + 1, none⟩ (.slice rA left rc)).setCell ⟨g, i * 3 + 2, none⟩ (.int .i64 ((left : Int) : Int))) = V2 at HP2 HT HKp ⊢
      have b0 := HP2.out.box.cell 0 _ rfl
      have b1 := HP2.out.box.cell 1 _ rfl
      have z0 := HT.out.cell 0 _ rfl
      have z1 := HT.out.cell 1 _ rfl
      have zf := HT.out.frozen
      clear hil2 hil3 hn1 hlcI hlc0 hcfx hgb hgb' hgb2 hgb2'
      generalize (Value.pointer (some ⟨g, i * 3, none⟩)) = u0
      generalize (Value.pointer (some ⟨g, i * 3 + 1, none⟩)) = u1
      generalize (Value.pointer (some ⟨g, i * 3 + 2, none⟩)) = u2
      generalize (Value.slice rA (fileAt d i).recs.length rc) = u3
      generalize (Value.int .i64 ((fileAt d i).recs.length : Int)) = u4
      generalize (Value.int .i64 (((fileAt d i).recs.length : Int) - (fileAt d i).safe)) = u5
      generalize (Value.int .i64 (fileAt d i).safe) = u6
      generalize (Value.int .i64 mn) = u7
      generalize (Value.int .i64 (left : Int)) = u8
      generalize (Value.agg #[.slice (some ⟨g, 0, none⟩) d.files.length cf, .slice Al d.list.length cl]) = u9
      generalize (Value.slice (some ⟨g, 0, none⟩) d.files.length cf) = u10
      go_wp2
      have hv := (HP2.out.val.set HT.out RowTy.disk 0 (.slice (some ⟨g, 0, none⟩) d.files.length cf)).set (HT.out.setAt 0 (.slice (some ⟨g, 0, none⟩) d.files.length cf)) RowTy.disk 1 (.slice Al d.list.length cl)
      have y2 := (HT.out.setAt 0 (.slice (some ⟨g, 0, none⟩) d.files.length cf)).setAt 1 (.slice Al d.list.length cl)
      have y0 := y2.cell 0 _ rfl
      have y1 := y2.cell 1 _ rfl
      refine bodyPost_ret (v := .agg #[.slice (some ⟨g, 0, none⟩) d.files.length cf, .slice Al d.list.length cl]) (by simp [results, Try.results94, go_sem, y0, y1]) rfl ?_
      rw [Hfin.out]
      exact ⟨_, _, _, rfl, hv, (HKp.out.setFresh (p := ⟨w.heap.size + 1, 0, none⟩) (by simp) hh _).setFresh (p := ⟨w.heap.size + 1, 1, none⟩) (by simp) hh _⟩
end Go.Proofs.Ytfmojgdomficlaa
set_option linter.unusedVariables false
set_option linter.unusedSimpArgs false
/-! Two files are merged, as the reference does it. -/
namespace Go.Proofs.Ytfmojgdomficlaa
open Go.RowKit Go.Shelf Go.Proofs.YtfmojgdomficlaaW.PrintWords

/-- What a step of the reference leaves, and whether it was done. -/
def ValPost2 (h0 : Nat) (ok : Bool) (d' : SDisk) (w : World) (e : Ending) (w' : World) : Prop := ∃ vf vl rs, e = .returned (.tuple #[.agg #[vf, vl], .bool ok]) ∧ DVal h0 w' vf vl rs d' ∧ Kp h0 w w'
/-- Three boxes: the device, the step, the result. -/
structure MWork (h0 : Nat) (w0 : World) (b b1 b2 : Nat) (cs : Array Value) (vf vl : Value) (rs : List RF) (d : SDisk) (X : World) : Prop where
  db : DBox h0 X b vf vl rs d
  step : Cells X b1 cs 58
  two : Cells X b2 #[.slice none 0 0, .slice none 0 0] 33
  kp : Kp h0 w0 X
theorem MWork.later {h0 : Nat} {w0 : World} {b b1 b2 : Nat} {cs : Array Value} {vf vl : Value} {rs : List RF} {d : SDisk} {X Y : World} (h : MWork h0 w0 b b1 b2 cs vf vl rs d X) (hb : Below X.heap.size X Y) (hh : h0 ≤ w0.heap.size) : MWork h0 w0 b b1 b2 cs vf vl rs d Y := ⟨h.db.later hb, h.step.later hb, h.two.later hb, h.kp.later hb (Nat.le_trans hh h.kp.size)⟩
theorem MWork.size {h0 : Nat} {w0 : World} {b b1 b2 : Nat} {cs : Array Value} {vf vl : Value} {rs : List RF} {d : SDisk} {X : World} (h : MWork h0 w0 b b1 b2 cs vf vl rs d X) (hh : h0 ≤ w0.heap.size) : h0 ≤ X.heap.size := Nat.le_trans hh h.kp.size
theorem three_step (w : World) (h0 : Nat) (cs : Array Value) {vf vl : Value} {rs : List RF} {d : SDisk} (hd : DVal h0 w vf vl rs d) (hh : h0 ≤ w.heap.size) :
    MWork h0 w w.heap.size (w.heap.size + 1) (w.heap.size + 1 + 1) cs vf vl rs d (((w.alloc (.cells #[vf, vl] 33)).alloc (.cells cs 58)).alloc (.cells #[.slice none 0 0, .slice none 0 0] 33)) := by
  obtain ⟨k1, k2, k3, hB⟩ := three_new w #[vf, vl] cs #[.slice none 0 0, .slice none 0 0] 33 58 33
  exact ⟨(hd.later hB).box hh k1, k2, k3, .of hB hh⟩
set_option maxRecDepth 100000 in
set_option maxHeartbeats 8000000 in
theorem ref_merge_no (d : SDisk) (h0 : Nat) (vf vl : Value) (rs : List RF) (k : Nat) (sdo stop : Int) (torn : Bool) (n : News) (w : World) (hd : DVal h0 w vf vl rs d) (hl : d.list.length ≤ 90000) (hh : h0 ≤ w.heap.size) (hk : d.list.length ≤ k + 2 ∨ fullB d = true) :
    Calls Try.prog 96 #[.agg #[vf, vl], .agg #[.int .i64 sdo, .int .i64 k, .int .i64 stop, .bool torn, .int .i64 n.do_, .int .i64 n.src, .int .i64 n.id, .int .i64 n.ver, .int .i64 n.body.at_, .int .i64 n.body.key, .int .i64 n.body.val], .int .i64 (lastNo d + 1)] w (ValPost2 h0 false d w) := by
  obtain ⟨Af, cf, Al, cl, rfl, rfl, hda⟩ := hd.reads
  have hW := three_step w h0 #[.int .i64 sdo, .int .i64 k, .int .i64 stop, .bool torn, .int .i64 n.do_, .int .i64 n.src, .int .i64 n.id, .int .i64 n.ver, .int .i64 n.body.at_, .int .i64 n.body.key, .int .i64 n.body.val] hd hh
  have HW := Lib.hid hW
  clear hW hd hda
  have hwr : IntKind.i64.wrap ((d.list.length : Int) - 2) = (d.list.length : Int) - 2 := IntWalk.i64_in _ (by omega)
  have hways : decide ((d.list.length : Int) - 2 ≤ k) = true ∨ (decide ((d.list.length : Int) - 2 ≤ k) = false ∧ decide ((9999 : Int) < lastNo d + 1) = true) := by
    simp only [decide_eq_true_eq, decide_eq_false_iff_not]
    rcases hk with hk | hk
    · left; omega
    · simp only [fullB, decide_eq_true_eq] at hk
      omega
  rcases hways with h1 | ⟨h1, h2⟩
  all_goals
    go_enter Try.func96, Try.ntmps96
    go_upto_region 1 with fail
    generalize (((w.alloc (.cells #[.slice Af d.files.length cf, .slice Al d.list.length cl] 33)).alloc (.cells #[.int .i64 sdo, .int .i64 k, .int .i64 stop, .bool torn, .int .i64 n.do_, .int .i64 n.src, .int .i64 n.id, .int .i64 n.ver, .int .i64 n.body.at_, .int .i64 n.body.key, .int .i64 n.body.val] 58)).alloc (.cells #[.slice none 0 0, .slice none 0 0] 33)) = w3 at HW ⊢
    have q0 := HW.out.db.box.cell 0 _ rfl
    have q1 := HW.out.db.box.cell 1 _ rfl
    have p1 := HW.out.step.cell 1 _ rfl
    have z0 := HW.out.two.cell 0 _ rfl
    have z1 := HW.out.two.cell 1 _ rfl
    have zf := HW.out.two.frozen
    go_wp2
    have hv := (HW.out.db.val.set HW.out.two RowTy.disk 0 (.slice Af d.files.length cf)).set (HW.out.two.setAt 0 (.slice Af d.files.length cf)) RowTy.disk 1 (.slice Al d.list.length cl)
    have y2 := (HW.out.two.setAt 0 (.slice Af d.files.length cf)).setAt 1 (.slice Al d.list.length cl)
    have y0 := y2.cell 0 _ rfl
    have y1 := y2.cell 1 _ rfl
    refine bodyPost_ret (v := .tuple #[.agg #[.slice Af d.files.length cf, .slice Al d.list.length cl], .bool false]) (by simp [results, Try.results96, go_sem, y0, y1]) rfl ?_
    exact ⟨_, _, _, rfl, hv, (HW.out.kp.setFresh (p := ⟨w.heap.size + 1 + 1, 0, none⟩) (by simp only; omega) hh _).setFresh (p := ⟨w.heap.size + 1 + 1, 1, none⟩) (by simp only; omega) hh _⟩
end Go.Proofs.Ytfmojgdomficlaa
set_option linter.unusedVariables false
set_option linter.unusedSimpArgs false
/-! Two files are merged, as the reference does it: where it is done. -/
namespace Go.Proofs.Ytfmojgdomficlaa
open Go.RowKit Go.Shelf Go.Proofs.YtfmojgdomficlaaW.PrintWords

set_option maxRecDepth 100000 in
set_option maxHeartbeats 8000000 in
theorem ref_merge_do (d : SDisk) (h0 : Nat) (vf vl : Value) (rs : List RF) (k : Nat) (sdo stop : Int) (torn : Bool) (n : News) (w : World) (hd : DVal h0 w vf vl rs d) (hr : Ready d) (hrs : ∀ f ∈ d.files, f.recs.length ≤ 50000) (hh : h0 ≤ w.heap.size) (hk : k + 2 < d.list.length) (hfu : fullB d = false) :
    Calls Try.prog 96 #[.agg #[vf, vl], .agg #[.int .i64 sdo, .int .i64 k, .int .i64 stop, .bool torn, .int .i64 n.do_, .int .i64 n.src, .int .i64 n.id, .int .i64 n.ver, .int .i64 n.body.at_, .int .i64 n.body.key, .int .i64 n.body.val], .int .i64 (lastNo d + 1)] w (ValPost2 h0 (mergeD d k stop).2 (mergeD d k stop).1 w) := by
  have hl := hr.list
  have hfl := hr.files
  obtain ⟨ia, hia⟩ := Option.isSome_iff_exists.1 (hr.placed _ (List.mem_of_getElem? (listAt_get (d := d) (k := k) (by omega))))
  obtain ⟨ib, hib⟩ := Option.isSome_iff_exists.1 (hr.placed _ (List.mem_of_getElem? (listAt_get (d := d) (k := k + 1) (by omega))))
  have hm : mergeRecs d k = mergedOf ((fileAt d ia).recs ++ (fileAt d ib).recs) := by rw [mergeRecs, fileNo, fileNo, hia, hib]; rfl
  have hial : ia < d.files.length := by obtain ⟨_, f, h1, _⟩ := placeI_spec _ d.files 0 ia hia; exact (List.getElem?_eq_some_iff.1 h1).1
  have hibl : ib < d.files.length := by obtain ⟨_, f, h1, _⟩ := placeI_spec _ d.files 0 ib hib; exact (List.getElem?_eq_some_iff.1 h1).1
  have hal := hrs _ (List.mem_of_getElem? (fileAt_get hial))
  have hbl := hrs _ (List.mem_of_getElem? (fileAt_get hibl))
  have hW := three_step w h0 #[.int .i64 sdo, .int .i64 k, .int .i64 stop, .bool torn, .int .i64 n.do_, .int .i64 n.src, .int .i64 n.id, .int .i64 n.ver, .int .i64 n.body.at_, .int .i64 n.body.key, .int .i64 n.body.val] hd hh
  obtain ⟨ra, hra⟩ : ∃ r, rs[ia]? = some r := ⟨_, List.getElem?_eq_getElem (by rw [hd.rows.len]; exact hial)⟩
  obtain ⟨rb, hrb⟩ : ∃ r, rs[ib]? = some r := ⟨_, List.getElem?_eq_getElem (by rw [hd.rows.len]; exact hibl)⟩
  obtain ⟨-, -, a3⟩ := hd.rows.rel ia ra _ hra (fileAt_get hial)
  obtain ⟨-, -, b3⟩ := hd.rows.rel ib rb _ hrb (fileAt_get hibl)
  obtain ⟨Af, cf, Al, cl, rfl, rfl, hda⟩ := hd.reads
  obtain ⟨ano, aA, an, ac, asafe⟩ := ra
  obtain ⟨bno, bA, bn, bc, bsafe⟩ := rb
  obtain ⟨A', c', he, hac, haow⟩ := own_reads' a3
  obtain rfl : an = (fileAt d ia).recs.length := by injection he
  obtain rfl : ac = c' := by injection he
  obtain rfl : aA = A' := by injection he
  obtain ⟨A', c', he', hbc, hbow⟩ := own_reads' b3
  obtain rfl : bn = (fileAt d ib).recs.length := by injection he'
  obtain rfl : bc = c' := by injection he'
  obtain rfl : bA = A' := by injection he'
  obtain ⟨al, rfl, -⟩ := int_cell hda.list k _ (listAt_get (by omega)) rfl
  have hcl := hda.capl
  have hcf := hda.capf
  have hmx : d.files.length ≤ 9223372036854775807 := hda.files.2.1
  have hB0 := hW.kp.below
  clear he he'
  go_enter Try.func96, Try.ntmps96
  go_upto_region 1 with fail
  have hBw : Below w.heap.size w (((w.alloc (.cells #[.slice Af d.files.length cf, .slice (some al) d.list.length cl] 33)).alloc (.cells #[.int .i64 sdo, .int .i64 k, .int .i64 stop, .bool torn, .int .i64 n.do_, .int .i64 n.src, .int .i64 n.id, .int .i64 n.ver, .int .i64 n.body.at_, .int .i64 n.body.key, .int .i64 n.body.val] 58)).alloc (.cells #[.slice none 0 0, .slice none 0 0] 33)) := (three_new w _ _ _ _ _ _).2.2.2
  have HW := Lib.hid hW
  have HB := Lib.hid hBw
  clear hW hd hB0 hBw
  generalize (((w.alloc (.cells #[.slice Af d.files.length cf, .slice (some al) d.list.length cl] 33)).alloc (.cells #[.int .i64 sdo, .int .i64 k, .int .i64 stop, .bool torn, .int .i64 n.do_, .int .i64 n.src, .int .i64 n.id, .int .i64 n.ver, .int .i64 n.body.at_, .int .i64 n.body.key, .int .i64 n.body.val] 58)).alloc (.cells #[.slice none 0 0, .slice none 0 0] 33)) = w3 at HW HB ⊢
  have Hda := Lib.hid (hda.later HB.out)
  have Har := Lib.hid (Kd.C_below haow HB.out)
  have Hbr := Lib.hid (Kd.C_below hbow HB.out)
  obtain ⟨g, cf', hvf, hg0, hgl, A0, A1, A2, -⟩ := HW.out.db.cells hra
  obtain ⟨g', cf2, e', -, -, B0, B1, B2, -⟩ := HW.out.db.cells hrb
  injection hvf with e1 e2 e3
  subst e1 e3
  injection e' with e1 e4 e5
  injection e1 with e1
  injection e1 with e1
  subst e1
  have HA1 := Lib.hid (show w3.cell? ⟨g, ia * 3 + 1, none⟩ = some (.slice aA (fileAt d ia).recs.length ac) from A1)
  have HB1 := Lib.hid (show w3.cell? ⟨g, ib * 3 + 1, none⟩ = some (.slice bA (fileAt d ib).recs.length bc) from B1)
  have Hm := Lib.hid hm
  have Hr := Lib.hid hr
  obtain ⟨k1, hk1⟩ : ∃ k1, k1 = k + 1 := ⟨_, rfl⟩
  obtain ⟨k2, hk2⟩ : ∃ k2, k2 = k + 2 := ⟨_, rfl⟩
  have Hpa := Lib.hid (show placeOf d.files (listAt d k) = (ia : Int) by rw [placeOf, hia])
  have Hpb := Lib.hid (show placeOf d.files (listAt d k1) = (ib : Int) by rw [placeOf, hk1, hib])
  have hxa : ∀ W, DRows W (some ⟨g, 0, none⟩) cf (some al) cl d → W.cell? (al.add k) = some (.int .i64 (listAt d k)) ∧ W.cell? (al.add k1) = some (.int .i64 (listAt d k1)) := fun W h => by
    obtain ⟨a2, e, hc⟩ := int_cell h.list _ _ (listAt_get (d := d) (k := k) (by omega)) rfl
    obtain ⟨a3, e3, hc3⟩ := int_cell h.list _ _ (listAt_get (d := d) (k := k1) (by omega)) rfl
    cases e; cases e3; exact ⟨hc, hc3⟩
  have Hxa := Lib.hid hxa
  have hwr : IntKind.i64.wrap ((d.list.length : Int) - 2) = (d.list.length : Int) - 2 := IntWalk.i64_in _ (by omega)
  have hw1 : IntKind.i64.wrap ((k : Int) + 1) = (k1 : Int) := by rw [IntWalk.i64_in _ (by omega)]; omega
  have hw2 := Lib.hid (show IntKind.i64.wrap ((k : Int) + 2) = (k2 : Int) from by rw [IntWalk.i64_in _ (by omega)]; omega)
  have h2b : decide ((d.list.length : Int) - 2 ≤ (k : Int)) = false := by simp; omega
  have h2c : decide ((9999 : Int) < lastNo d + 1) = false := by
    simp only [fullB, decide_eq_false_iff_not] at hfu
    simp only [decide_eq_false_iff_not]; omega
  have hklt : k < d.list.length := by omega
  have hk1lt : k1 < d.list.length := by omega
  have hk2le : k2 ≤ d.list.length := by omega
  have Hk1 := Lib.hid hk1
  have Hk2 := Lib.hid hk2
  have Hfu := Lib.hid hfu
  have Hk := Lib.hid hk
  clear hk1 hk2 hr hia hib hm haow hbow a3 b3 hra hrb hxa hda A0 A1 A2 B0 B1 B2 e2 e4 e5 hfu
  have q1 := HW.out.db.box.cell 1 _ rfl
  have p1 := HW.out.step.cell 1 _ rfl
  go_wp2
  clear q1 p1 h2b h2c hwr
  refine wp_region_flow [.free 0, .calm 1, .free 2, .calm 3, .free 4, .calm 5, .free 6, .calm 7, .free 8, .calm 9, .free 10, .free 11, .calm 12, .free 13, .free 14] (Below w3.heap.size w3) (Below w3.heap.size w3) (stable_below _ _ (Nat.le_refl _)) (fun _ h => h) (by kernel_rfl) (by kernel_rfl) (below_drew1 (Below.refl _ _)) ?_
  simp only [pickEnts, pickF, List.getElem?_cons_succ, List.getElem?_cons_zero, List.filterMap_cons, List.filterMap_nil, Option.map_some]
  repeat ((first | refine flow_calm (fun K hK => ?_) | refine flow_free (fun K hK => ?_) | refine float_calm (fun K hK => ?_) | refine float_free (fun K hK => ?_)); go_simp; first | (refine hK _ ?_; clear hK K) | (apply Exists.intro; (refine ⟨fun X => ?_, hK _ ?_⟩); (first | (intro hC; rfl) | rfl | (intro hC; have q := HW.out.db.box.later hC.out; have q1 := q.cell 1 _ rfl; have p := HW.out.step.later hC.out; have p1 := p.cell 1 _ rfl; obtain ⟨x0, x1⟩ := Hxa.out X (Hda.out.later hC.out); go_simp; done) | (intro hC; have q := HW.out.db.box.later hC.out; have q1 := q.cell 1 _ rfl; have p := HW.out.step.later hC.out; have p1 := p.cell 1 _ rfl; obtain ⟨x0, x1⟩ := Hxa.out X (Hda.out.later hC.out); go_simp; rfl)); clear hK K))
  refine flow_nil ?_
  intro w4 hX
  have HB4 := Lib.hid hX.out
  clear hX hw1
  go_wp2
  have HAd := Lib.hid (show ∀ n, (⟨g, 0, none⟩ : Addr).add n = ⟨g, n, none⟩ from fun n => by rw [add_plain])
  refine wp_region_flow [.free 0, .calm 1, .calm 2, .free 3, .calm 4, .free 5, .free 6, .calm 7, .free 9, .calm 10, .calm 11, .free 12, .group [8], .calm 13, .free 14, .free 15, .calm 16, .alone 17, .group [18], .free 19] (Below w4.heap.size w4) (Below w4.heap.size w4) (stable_below _ _ (Nat.le_refl _)) (fun _ h => h) (by kernel_rfl) (by kernel_rfl) (below_drew1 (Below.refl _ _)) ?_
  simp only [pickEnts, pickF, List.getElem?_cons_succ, List.getElem?_cons_zero, List.filterMap_cons, List.filterMap_nil, Option.map_some]
  repeat ((first | refine flow_calm (fun K hK => ?_) | refine flow_free (fun K hK => ?_) | refine float_calm (fun K hK => ?_) | refine float_free (fun K hK => ?_)); go_simp; first | (refine hK _ ?_; clear hK K) | (apply Exists.intro; (refine ⟨fun X => ?_, hK _ ?_⟩); (first | (intro hC; rfl) | rfl | (intro hC; have q := HW.out.db.box.later (below_step HB4.out hC.out); have q0 := q.cell 0 _ rfl; have q1 := q.cell 1 _ rfl; have q4 : X.cell? ⟨g, ia * 3 + 1, none⟩ = _ := cell_keep (below_step HB4.out hC.out) HA1.out; have q7 : X.cell? ⟨g, ib * 3 + 1, none⟩ = _ := cell_keep (below_step HB4.out hC.out) HB1.out; go_simp; done) | (intro hC; have q := HW.out.db.box.later (below_step HB4.out hC.out); have q0 := q.cell 0 _ rfl; have q1 := q.cell 1 _ rfl; have q4 : X.cell? ⟨g, ia * 3 + 1, none⟩ = _ := cell_keep (below_step HB4.out hC.out) HA1.out; have q7 : X.cell? ⟨g, ib * 3 + 1, none⟩ = _ := cell_keep (below_step HB4.out hC.out) HB1.out; go_simp; rfl) | (intro hC; (with_reducible refine (ref_file d _ _ cf cl (listAt d k) _ (Hda.out.later (below_step HB4.out hC.out))).mono ?_); rintro e w' ⟨rfl, hb⟩; rw [Hpa.out]; exact ⟨rfl, hb⟩) | (intro hC; (with_reducible refine (ref_file d _ _ cf cl (listAt d k1) _ (Hda.out.later (below_step HB4.out hC.out))).mono ?_); rintro e w' ⟨rfl, hb⟩; rw [Hpb.out]; exact ⟨rfl, hb⟩)); clear hK K))
  refine flow_one (fun v X => Own kSRec 83 X w4.heap.size v (fileAt d ia).recs) (fun _ _ _ h hb => Kd.R_below h hb) ⟨rfl, fun X hX => ?_⟩ (fun v X0 hX0 hV0 => ?_)
  · refine makes_fresh kSRec w4.heap.size hX.out.size (.const (.slice none 0 0)) (.tmp 43) 60 83 (.agg #[.int .i64 0, .int .i64 0, .int .i64 0, .int .i64 0, .int .i64 0, .int .i64 0, .int .i64 0, .int .i64 0]) 64 rfl (by kernel_rfl) (by kernel_rfl) rfl (by decide) (by omega) (fileAt d ia).recs aA (fileAt d ia).recs.length ac rfl rfl (Kd.C_below Har.out (below_step HB4.out hX.out)) (fun x cs h => srec_KM _ _ _ _ x cs h) (by omega)
  obtain ⟨A3, n3, c3, rfl⟩ := R_slice' hV0
  clear hX0 hV0
  repeat ((first | refine flow_calm (fun K hK => ?_) | refine flow_free (fun K hK => ?_) | refine float_calm (fun K hK => ?_) | refine float_free (fun K hK => ?_)); go_simp; first | (refine hK _ ?_; clear hK K) | (apply Exists.intro; (refine ⟨fun X => ?_, hK _ ?_⟩); (first | (intro hC; rfl) | rfl | (intro hC; have q := HW.out.db.box.later (below_step HB4.out hC.out); have q0 := q.cell 0 _ rfl; have q1 := q.cell 1 _ rfl; have q4 : X.cell? ⟨g, ia * 3 + 1, none⟩ = _ := cell_keep (below_step HB4.out hC.out) HA1.out; have q7 : X.cell? ⟨g, ib * 3 + 1, none⟩ = _ := cell_keep (below_step HB4.out hC.out) HB1.out; go_simp; done) | (intro hC; have q := HW.out.db.box.later (below_step HB4.out hC.out); have q0 := q.cell 0 _ rfl; have q1 := q.cell 1 _ rfl; have q4 : X.cell? ⟨g, ia * 3 + 1, none⟩ = _ := cell_keep (below_step HB4.out hC.out) HA1.out; have q7 : X.cell? ⟨g, ib * 3 + 1, none⟩ = _ := cell_keep (below_step HB4.out hC.out) HB1.out; go_simp; rfl) | (intro hC; (with_reducible refine (ref_file d _ _ cf cl (listAt d k) _ (Hda.out.later (below_step HB4.out hC.out))).mono ?_); rintro e w' ⟨rfl, hb⟩; rw [Hpa.out]; exact ⟨rfl, hb⟩) | (intro hC; (with_reducible refine (ref_file d _ _ cf cl (listAt d k1) _ (Hda.out.later (below_step HB4.out hC.out))).mono ?_); rintro e w' ⟨rfl, hb⟩; rw [Hpb.out]; exact ⟨rfl, hb⟩)); clear hK K))
  refine flow_alone rfl (fun X hX K hK => ?_)
  obtain ⟨hb, hown⟩ := hX.out
  refine Kd.R_append_rows_step kSRec (w0 := X) w4.heap.size (by rfl) (.tmp 44) (.tmp 52) 60 83 (.agg #[.int .i64 0, .int .i64 0, .int .i64 0, .int .i64 0, .int .i64 0, .int .i64 0, .int .i64 0, .int .i64 0]) 64 rfl (by kernel_rfl) (by kernel_rfl) rfl (by decide) (by omega) (.slice A3 n3 c3) (fileAt d ia).recs (fileAt d ib).recs _ _ _ (fun _ => True) (fun _ => False) rfl rfl hown (Kd.C_below Hbr.out (below_step HB4.out hb)) (fun x cs h => srec_KM _ _ _ _ x cs h) (fun _ h => h.elim) (fun _ _ => trivial) (Below.refl _ _) hb.size (by omega) ?_
  intro v1 w5 r1 r2 r3 r4
  obtain ⟨A6, n6, c6, rfl⟩ := R_slice' r1
  refine hK.out _ _ (fun Z => Below w4.heap.size w4 Z ∧ Own kSRec 83 Z w4.heap.size (.slice A6 n6 c6) ((fileAt d ia).recs ++ (fileAt d ib).recs)) (fun Z => Below w4.heap.size w4 Z ∧ Own kSRec 83 Z w4.heap.size (.slice A6 n6 c6) ((fileAt d ia).recs ++ (fileAt d ib).recs)) (fun Z Z' hZ hb => ⟨below_step hZ.1 hb, Kd.R_below hZ.2 hb⟩) (fun _ h => h.1) (fun _ h => h) ⟨hb.trans r2, r1⟩ ?_
  clear hK K hX hb hown r1 r2 r3 r4
  refine flow_one (fun v X => Own kSRec 83 X w4.heap.size v (mergedOf ((fileAt d ia).recs ++ (fileAt d ib).recs))) (fun _ _ _ h hb => Kd.R_below h hb) ⟨rfl, fun X hX => ?_⟩ (fun v X0 hX0 hV0 => ?_)
  · go_simp
    obtain ⟨A', c', he, hc1, hc2⟩ := own_reads' hX.out.2
    injection he with e1 e2 e3
    subst e1 e2 e3
    refine ⟨Below.refl _ _, (ref_Merged ((fileAt d ia).recs ++ (fileAt d ib).recs) A6 c6 X hc2 hc1 (by rw [List.length_append]; omega)).mono ?_⟩
    rintro e w' ⟨v, rfl, h1, h2⟩
    exact ⟨v, rfl, h2, Kd.R_lower h1 hX.out.1.size⟩
  obtain ⟨Am, nm, cm, rfl⟩ := R_slice' hV0
  clear hX0 hV0
  repeat ((first | refine flow_calm (fun K hK => ?_) | refine flow_free (fun K hK => ?_) | refine float_calm (fun K hK => ?_) | refine float_free (fun K hK => ?_)); go_simp; first | (refine hK _ ?_; clear hK K) | (apply Exists.intro; (refine ⟨fun X => ?_, hK _ ?_⟩); (first | (intro hC; rfl) | rfl | (intro hC; skip; go_simp; done) | (intro hC; skip; go_simp; rfl)); clear hK K))
  refine flow_nil ?_
  intro w5 hX
  obtain ⟨⟨hb5, -⟩, hown⟩ := hX.out
  have hB5 := below_step HB4.out hb5
  have hW5 := HW.out.later hB5 hh
  have hsz5 := hW5.size hh
  have hlen := Hda.out.files
  have Hrow := Lib.hid (Kd.R_lower hown (show h0 ≤ w4.heap.size from (Nat.le_trans (HW.out.size hh) HB4.out.size)))
  have hnew : ∀ s ∈ rs, ∀ m, s.v.ownBlock = some m → (Value.slice Am nm cm).ownBlock ≠ some m := fun s hs m hm e => by
    obtain ⟨_, cs, hc⟩ := HW.out.db.rows.typed hs hm
    have h1 := (own_ty hown e).1
    have h2 := (Array.getElem?_eq_some_iff.1 hc).1
    have := HB4.out.size
    omega
  have hrl := hW5.db.rows.len
  have HW5 := Lib.hid hW5
  have Hnew := Lib.hid hnew
  have hnm : nm = (mergedOf ((fileAt d ia).recs ++ (fileAt d ib).recs)).length := by
    obtain ⟨A', c', he, -, -⟩ := own_reads' hown
    injection he
  have Hnm := Lib.hid hnm
  have q0 := hW5.db.box.cell 0 _ rfl
  clear hX hb5 hown hW5 hnew HB4 HA1 HB1 Har Hbr hnm
  go_upto_region 6 with (at_builtin; refine Kd.R_append kRF (w0 := w5) h0 rfl _ _ 30 62 (.agg #[.int .i64 0, .slice none 0 0, .int .i64 0]) 40 rfl (by kernel_rfl) (by kernel_rfl) rfl (by decide) (by omega) (.slice (some ⟨g, 0, none⟩) d.files.length cf) rs ⟨lastNo d + 1, Am, nm, cm, nm⟩ [.int .i64 (lastNo d + 1), .slice Am nm cm, .int .i64 nm] (fun _ => True) (fun _ => False) rfl rfl (kRF_mkM _ _ _ _) (fun _ h => h.elim) (fun _ _ => trivial) HW5.out.db.files (Below.refl _ _) hsz5 (by omega) ?_; intro v1 w6 r1 r2 r3 r4; obtain ⟨A1, n1, c1, rfl⟩ := R_slice' r1; have hbx := HW5.out.db.box.kept r3 HW5.out.db.box_ne.1; have x0 := hbx.cell 0 _ rfl; have xf := hbx.frozen 0; have hst6 := HW5.out.step.kept r3 (fun e => by obtain ⟨_, cs, hc⟩ := own_ty HW5.out.db.files e.symm; exact absurd (cells_ty (show Cells w5 _ _ _ from hc) HW5.out.step) (by decide)))
  have hrows := rows_snoc_own HW5.out.db.files HW5.out.db.rows r3 ⟨lastNo d + 1, Am, nm, cm, nm⟩ ⟨lastNo d + 1, mergedOf ((fileAt d ia).recs ++ (fileAt d ib).recs), (mergedOf ((fileAt d ia).recs ++ (fileAt d ib).recs)).length⟩ rfl (by simp only [Hnm.out]) Hrow.out Hnew.out
  have hmd : merge1D d k = ⟨d.files ++ [⟨lastNo d + 1, mergedOf ((fileAt d ia).recs ++ (fileAt d ib).recs), (mergedOf ((fileAt d ia).recs ++ (fileAt d ib).recs)).length⟩], d.list⟩ := by rw [merge1D, freshD, Hm.out]
  have htw6 := HW5.out.two.kept r3 (fun e => by obtain ⟨_, cs, hc⟩ := own_ty HW5.out.db.files e.symm; exact absurd (cells_ty (show Cells w5 _ _ _ from hc) HW5.out.two) (by decide))
  have hW7 : MWork h0 w w.heap.size (w.heap.size + 1) (w.heap.size + 1 + 1) #[.int .i64 sdo, .int .i64 k, .int .i64 stop, .bool torn, .int .i64 n.do_, .int .i64 n.src, .int .i64 n.id, .int .i64 n.ver, .int .i64 n.body.at_, .int .i64 n.body.key, .int .i64 n.body.val] (.slice A1 n1 c1) (.slice (some al) d.list.length cl) (rs ++ [⟨lastNo d + 1, Am, nm, cm, nm⟩]) (merge1D d k) (w6.setCell ⟨w.heap.size, 0, none⟩ (.slice A1 n1 c1)) :=
    ⟨by rw [hmd]; exact HW5.out.db.put_files r3 _ _ _ r1 hrows, hst6.other (p := ⟨w.heap.size, 0, none⟩) (by simp) _, htw6.other (p := ⟨w.heap.size, 0, none⟩) (by simp only; omega) _, (HW5.out.kp.grown r2 r3 HW5.out.db.mineV).setFresh (p := ⟨w.heap.size, 0, none⟩) (Nat.le_refl _) hh _⟩
  have HW7 := Lib.hid hW7
  have hoo := Hr.out.open
  have hil := hoo.lt
  have hsaf := Hr.out.safeAt hil
  have hrec := Hr.out.recsAt hil
  have Hoo := Lib.hid hoo
  have Hsaf := Lib.hid hsaf
  clear hrows hmd htw6 hW7 hbx x0 xf hst6 r1 r2 r3 r4 HW5 Hrow Hnew Hnm q0 hrl hsz5 hlen hoo hsaf
  generalize (w6.setCell ⟨w.heap.size, 0, none⟩ (.slice A1 n1 c1)) = w7 at HW7 ⊢
  have hgo : ¬ (d.list.length ≤ k + 2 ∨ fullB d = true) := fun h => by
    rcases h with h | h
    · have := Hk.out; omega
    · rw [Hfu.out] at h; cases h
  have Hgo := Lib.hid hgo
  clear hgo
  have p2 := HW7.out.step.cell 2 _ rfl
  have q0 := HW7.out.db.box.cell 0 _ rfl
  have q1 := HW7.out.db.box.cell 1 _ rfl
  by_cases hs1 : stop = 1
  · subst hs1
    go_wp2_with (first
      | (go_at_call 94; (with_reducible refine (ref_crash (merge1D d k) h0 _ _ _ (openAt d) 0 false w7 HW7.out.db.val (merge1_open Hoo.out) (Int.le_refl _) (by rw [merge1D, fileAt_fresh hil]; exact Hsaf.out.1) (by rw [merge1D, fileAt_fresh hil]; exact Hsaf.out.2) (by rw [merge1D, fileAt_fresh hil]; omega) (HW7.out.size hh)).mono ?_); rintro e w8 ⟨vf8, vl8, rs8, rfl, hv8, hk8⟩; obtain ⟨A8, n8, c8, rfl⟩ := R_slice' hv8.files; obtain ⟨B8, m8, e8, rfl⟩ := R_slice' hv8.list; have hz8 : Cells w8 _ _ _ := hk8.cells HW7.out.two not_mine_disk; have z0 := hz8.cell 0 _ rfl; have z1 := hz8.cell 1 _ rfl; have zf := hz8.frozen))
    have hvv := (hv8.set hz8 RowTy.disk 0 (.slice A8 n8 c8)).set (hz8.setAt 0 (.slice A8 n8 c8)) RowTy.disk 1 (.slice B8 m8 e8)
    have y2 := (hz8.setAt 0 (.slice A8 n8 c8)).setAt 1 (.slice B8 m8 e8)
    have y0 := y2.cell 0 _ rfl
    have y1 := y2.cell 1 _ rfl
    have hkk := ((HW7.out.kp.trans hk8).setFresh (p := ⟨w.heap.size + 1 + 1, 0, none⟩) (by simp only; omega) hh (.slice A8 n8 c8)).setFresh (p := ⟨w.heap.size + 1 + 1, 1, none⟩) (by simp only; omega) hh (.slice B8 m8 e8)
    refine bodyPost_ret (v := .tuple #[.agg #[.slice A8 n8 c8, .slice B8 m8 e8], .bool true]) (by simp [results, Try.results96, go_sem, y0, y1]) rfl ?_
    rw [mergeD, if_neg Hgo.out, if_pos rfl]
    exact ⟨_, _, _, rfl, hvv, hkk⟩
  · have hs1b : (stop == 1) = false := by simpa using hs1
    have hl1 : (merge1D d k).list = d.list := rfl
    obtain ⟨Af1, cf1, Al1, cl1, hvf1, hvl1, hda1⟩ := HW7.out.db.val.reads
    injection hvl1 with e1 e2 e3
    subst e1 e3
    have Hl7 := Lib.hid (show Kd.C (Kd.int .i64) w7 (some al) d.list.length d.list from hda1.list)
    have hkcl : k ≤ cl := by omega
    have htl : (d.list.take k).length = k := by rw [List.length_take]; omega
    have hdl : (d.list.drop k2).length = d.list.length - k2 := List.length_drop
    have hck : ¬ (cl = k2) := by have := Hk2.out; omega
    clear hda1 hvf1 e2 hl1 p2 q0 q1
    have p2 := HW7.out.step.cell 2 _ rfl
    go_wp2
    clear p2
    refine wp_region_flow [.free 0, .calm 1, .free 2, .calm 3, .free 4, .free 6, .free 9, .calm 10, .free 11, .calm 12, .free 13, .free 14, .group [5, 7], .alone 8, .fence 15, .free 16, .fence 17] (Below w7.heap.size w7) (Below w7.heap.size w7) (stable_below _ _ (Nat.le_refl _)) (fun _ h => h) (by kernel_rfl) (by kernel_rfl) (below_drew1 (Below.refl _ _)) ?_
    simp only [pickEnts, pickF, List.getElem?_cons_succ, List.getElem?_cons_zero, List.filterMap_cons, List.filterMap_nil, Option.map_some]
    repeat ((first | refine flow_calm (fun K hK => ?_) | refine flow_free (fun K hK => ?_) | refine float_calm (fun K hK => ?_) | refine float_free (fun K hK => ?_)); go_simp; (try simp only [hw2.out]); first | (refine hK _ ?_; clear hK K) | (apply Exists.intro; (refine ⟨fun X => ?_, hK _ ?_⟩); (first | (intro hC; rfl) | rfl | (intro hC; have hq := HW7.out.later hC.out hh; have p1 := hq.step.cell 1 _ rfl; have q1 := hq.db.box.cell 1 _ rfl; go_simp; done) | (intro hC; have hq := HW7.out.later hC.out hh; have p1 := hq.step.cell 1 _ rfl; have q1 := hq.db.box.cell 1 _ rfl; go_simp; rfl) | skip); clear hK K))
    refine flow_two (fun v X => Own (Kd.int .i64) 3 X w7.heap.size v (d.list.take k)) (fun v X => ∃ B, v = .slice (some ⟨B, 0, none⟩) 1 1 ∧ Cells X B #[.int .i64 (lastNo d + 1)] 3) (fun _ _ _ h hb => Kd.R_below h hb) (fun _ _ _ h hb => by obtain ⟨B, h1, h2⟩ := h; exact ⟨B, h1, h2.later hb⟩) (by decide) ⟨rfl, fun X hX => ?_⟩ ⟨rfl, fun X hX => ?_⟩ (fun v u X0 hX0 hV0 hU0 => ?_)
    · refine makes_fresh (Kd.int .i64) w7.heap.size hX.out.size (.const (.slice none 0 0)) (.tmp 74) 31 3 (.int .i64 0) 8 rfl (by kernel_rfl) (by kernel_rfl) rfl (by decide) (by omega) (d.list.take k) (some al) k cl rfl rfl (by have h := Kd.C_take (Kd.C_below Hl7.out hX.out) (Nat.le_of_lt hklt); rw [htl] at h; exact h) (fun x cs h => int_KM _ _ _ _ x cs h) (by omega)
    · go_simp
      exact ⟨below_alloc (Below.refl _ _) _, Cells.new _ _ _⟩
    obtain ⟨A3, n3, c3, rfl⟩ := R_slice' hV0
    obtain ⟨B, rfl, -⟩ := hU0
    clear hX0 hV0
    refine flow_alone rfl (fun X hX K hK => ?_)
    obtain ⟨hb, hown, B', hB', hcB⟩ := hX.out
    cases hB'
    refine Kd.R_append_rows_step (Kd.int .i64) (w0 := X) w7.heap.size (by rfl) (.tmp 75) (.tmp 77) 31 3 (.int .i64 0) 8 rfl (by kernel_rfl) (by kernel_rfl) rfl (by decide) (by omega) (.slice A3 n3 c3) (d.list.take k) [lastNo d + 1] _ _ _ (fun _ => True) (fun _ => False) rfl rfl hown (lit_row (Kd.int .i64) X B (lastNo d + 1) [.int .i64 (lastNo d + 1)] 3 hcB rfl) (fun x cs h => h) (fun _ h => h.elim) (fun _ _ => trivial) (Below.refl _ _) hb.size (by omega) ?_
    intro v1 w5 r1 r2 r3 r4
    obtain ⟨A6, n6, c6, rfl⟩ := R_slice' r1
    refine hK.out _ _ (fun Z => Below w7.heap.size w7 Z ∧ Own (Kd.int .i64) 3 Z w7.heap.size (.slice A6 n6 c6) (d.list.take k ++ [lastNo d + 1])) (fun Z => Below w7.heap.size w7 Z ∧ Own (Kd.int .i64) 3 Z w7.heap.size (.slice A6 n6 c6) (d.list.take k ++ [lastNo d + 1])) (fun Z Z' hZ hb => ⟨below_step hZ.1 hb, Kd.R_below hZ.2 hb⟩) (fun _ h => h.1) (fun _ h => h) ⟨hb.trans r2, r1⟩ ?_
    clear hK K hX hb hown hcB r1 r2 r3 r4
    refine flow_fence rfl (fun X hX K hK => ?_)
    obtain ⟨hb, hown⟩ := hX.out
    have hdrop : Kd.C (Kd.int .i64) X (some (al.add k2)) (d.list.length - k2) (d.list.drop k2) := by
      have h := C_dropI (Kd.C_below Hl7.out hb) k2 hk2le
      have e : (Kd.int .i64).sz = 1 := rfl
      rw [e, Nat.mul_one] at h
      exact h
    refine Kd.R_append_rows_step (Kd.int .i64) (w0 := X) w7.heap.size (by rfl) (.tmp 78) (.tmp 84) 31 3 (.int .i64 0) 8 rfl (by kernel_rfl) (by kernel_rfl) rfl (by decide) (by omega) (.slice A6 n6 c6) (d.list.take k ++ [lastNo d + 1]) (d.list.drop k2) _ _ _ (fun _ => True) (fun _ => False) rfl rfl hown hdrop (fun x cs h => h) (fun _ h => h.elim) (fun _ _ => trivial) (Below.refl _ _) hb.size (by simp [htl]; omega) ?_
    intro v1 w5 r1 r2 r3 r4
    obtain ⟨A7, n7, c7, rfl⟩ := R_slice' r1
    generalize hL : d.list.take k ++ [lastNo d + 1] ++ d.list.drop k2 = L at r1
    refine hK.out _ _ (fun Z => Below w7.heap.size w7 Z ∧ Own (Kd.int .i64) 3 Z w7.heap.size (.slice A7 n7 c7) L) (fun Z => Below w7.heap.size w7 Z ∧ Own (Kd.int .i64) 3 Z w7.heap.size (.slice A7 n7 c7) L) (fun Z Z' hZ hb => ⟨below_step hZ.1 hb, Kd.R_below hZ.2 hb⟩) (fun _ h => h) ⟨hb.trans r2, r1⟩ ?_
    clear hK K hX hb hown hdrop r1 r2 r3 r4
    repeat ((first | refine flow_calm (fun K hK => ?_) | refine flow_free (fun K hK => ?_) | refine float_calm (fun K hK => ?_) | refine float_free (fun K hK => ?_)); go_simp; first | (refine hK _ ?_; clear hK K) | (apply Exists.intro; (refine ⟨fun X => ?_, hK _ ?_⟩); (first | (intro hC; rfl) | rfl | (intro hC; skip; go_simp; done) | (intro hC; skip; go_simp; rfl)); clear hK K))
    refine flow_fence rfl (fun X hX K hK => ?_)
    obtain ⟨hb, hown⟩ := hX.out
    have hDX := HW7.out.later hb hh
    have q1 := hDX.db.box.cell 1 _ rfl
    have qf := hDX.db.box.frozen 1
    go_simp
    have hP := hDX.db.put_list (below_grown (Below.refl _ _) _) (.slice A7 n7 c7) L (Kd.R_lower hown (HW7.out.size hh))
    have hW8 : MWork h0 w w.heap.size (w.heap.size + 1) (w.heap.size + 1 + 1) #[.int .i64 sdo, .int .i64 k, .int .i64 stop, .bool torn, .int .i64 n.do_, .int .i64 n.src, .int .i64 n.id, .int .i64 n.ver, .int .i64 n.body.at_, .int .i64 n.body.key, .int .i64 n.body.val] (.slice A1 n1 c1) (.slice A7 n7 c7) (rs ++ [⟨lastNo d + 1, Am, nm, cm, nm⟩]) (merge2D d k) (X.setCell ⟨w.heap.size, 1, none⟩ (.slice A7 n7 c7)) := ⟨by rw [merge2D, ← Hk2.out, hL]; exact hP, hDX.step.other (p := ⟨w.heap.size, 1, none⟩) (by simp) _, hDX.two.other (p := ⟨w.heap.size, 1, none⟩) (by simp only; omega) _, hDX.kp.setFresh (p := ⟨w.heap.size, 1, none⟩) (Nat.le_refl _) hh _⟩
    refine hK.out _ _ (MWork h0 w w.heap.size (w.heap.size + 1) (w.heap.size + 1 + 1) #[.int .i64 sdo, .int .i64 k, .int .i64 stop, .bool torn, .int .i64 n.do_, .int .i64 n.src, .int .i64 n.id, .int .i64 n.ver, .int .i64 n.body.at_, .int .i64 n.body.key, .int .i64 n.body.val] (.slice A1 n1 c1) (.slice A7 n7 c7) (rs ++ [⟨lastNo d + 1, Am, nm, cm, nm⟩]) (merge2D d k)) (MWork h0 w w.heap.size (w.heap.size + 1) (w.heap.size + 1 + 1) #[.int .i64 sdo, .int .i64 k, .int .i64 stop, .bool torn, .int .i64 n.do_, .int .i64 n.src, .int .i64 n.id, .int .i64 n.ver, .int .i64 n.body.at_, .int .i64 n.body.key, .int .i64 n.body.val] (.slice A1 n1 c1) (.slice A7 n7 c7) (rs ++ [⟨lastNo d + 1, Am, nm, cm, nm⟩]) (merge2D d k)) (fun Z Z' hZ hb => hZ.later hb hh) (fun _ h => h) hW8 ?_
    clear hK K hX hb hown hDX q1 qf hP hW8
    refine flow_nil ?_
    intro w9 hX
    have HW9 := Lib.hid hX.out
    clear hX HW7 Hl7
    have p2 := HW9.out.step.cell 2 _ rfl
    have q0 := HW9.out.db.box.cell 0 _ rfl
    have q1 := HW9.out.db.box.cell 1 _ rfl
    by_cases hs2 : stop = 2
    · subst hs2
      go_wp2_with (first
        | (go_at_call 94; (with_reducible refine (ref_crash (merge2D d k) h0 _ _ _ (openAt d) 0 false w9 HW9.out.db.val (merge2_open Hoo.out Hk.out) (Int.le_refl _) (by rw [show fileAt (merge2D d k) (openAt d) = fileAt (merge1D d k) (openAt d) from rfl, merge1D, fileAt_fresh hil]; exact Hsaf.out.1) (by rw [show fileAt (merge2D d k) (openAt d) = fileAt (merge1D d k) (openAt d) from rfl, merge1D, fileAt_fresh hil]; exact Hsaf.out.2) (by rw [show fileAt (merge2D d k) (openAt d) = fileAt (merge1D d k) (openAt d) from rfl, merge1D, fileAt_fresh hil]; omega) (HW9.out.size hh)).mono ?_); rintro e w8 ⟨vf8, vl8, rs8, rfl, hv8, hk8⟩; obtain ⟨A8, n8, c8, rfl⟩ := R_slice' hv8.files; obtain ⟨B8, m8, e8, rfl⟩ := R_slice' hv8.list; have hz8 : Cells w8 _ _ _ := hk8.cells HW9.out.two not_mine_disk; have z0 := hz8.cell 0 _ rfl; have z1 := hz8.cell 1 _ rfl; have zf := hz8.frozen))
      have hvv := (hv8.set hz8 RowTy.disk 0 (.slice A8 n8 c8)).set (hz8.setAt 0 (.slice A8 n8 c8)) RowTy.disk 1 (.slice B8 m8 e8)
      have y2 := (hz8.setAt 0 (.slice A8 n8 c8)).setAt 1 (.slice B8 m8 e8)
      have y0 := y2.cell 0 _ rfl
      have y1 := y2.cell 1 _ rfl
      have hkk := ((HW9.out.kp.trans hk8).setFresh (p := ⟨w.heap.size + 1 + 1, 0, none⟩) (by simp only; omega) hh (.slice A8 n8 c8)).setFresh (p := ⟨w.heap.size + 1 + 1, 1, none⟩) (by simp only; omega) hh (.slice B8 m8 e8)
      refine bodyPost_ret (v := .tuple #[.agg #[.slice A8 n8 c8, .slice B8 m8 e8], .bool true]) (by simp [results, Try.results96, go_sem, y0, y1]) rfl ?_
      rw [mergeD, if_neg Hgo.out, if_neg (by decide), if_pos rfl]
      exact ⟨_, _, _, rfl, hvv, hkk⟩
    · have hs2b : (stop == 2) = false := by simpa using hs2
      have hm3 := Lib.hid (show merge3D d k = dropD (merge2D d k) (fun no => !(no == listAt d k) && !(no == listAt d k1)) by rw [merge3D, ← Hk1.out])
      go_wp2_with (first
        | (go_at_call 101; (with_reducible refine (ref_without (merge2D d k) h0 _ _ _ (listAt d k) (listAt d k1) w9 HW9.out.db.val (by simp [merge2D, merge1D, freshD]; omega) (HW9.out.size hh)).mono ?_); rintro e w8 ⟨vf8, vl8, rs8, rfl, hv8, hk8⟩; obtain ⟨A8, n8, c8, rfl⟩ := R_slice' hv8.files; obtain ⟨B8, m8, e8, rfl⟩ := R_slice' hv8.list; have hz8 : Cells w8 _ _ _ := hk8.cells HW9.out.two not_mine_disk; have z0 := hz8.cell 0 _ rfl; have z1 := hz8.cell 1 _ rfl; have zf := hz8.frozen))
      have hvv := (hv8.set hz8 RowTy.disk 0 (.slice A8 n8 c8)).set (hz8.setAt 0 (.slice A8 n8 c8)) RowTy.disk 1 (.slice B8 m8 e8)
      have y2 := (hz8.setAt 0 (.slice A8 n8 c8)).setAt 1 (.slice B8 m8 e8)
      have y0 := y2.cell 0 _ rfl
      have y1 := y2.cell 1 _ rfl
      have hkk := ((HW9.out.kp.trans hk8).setFresh (p := ⟨w.heap.size + 1 + 1, 0, none⟩) (by simp only; omega) hh (.slice A8 n8 c8)).setFresh (p := ⟨w.heap.size + 1 + 1, 1, none⟩) (by simp only; omega) hh (.slice B8 m8 e8)
      refine bodyPost_ret (v := .tuple #[.agg #[.slice A8 n8 c8, .slice B8 m8 e8], .bool true]) (by simp [results, Try.results96, go_sem, y0, y1]) rfl ?_
      rw [mergeD, if_neg Hgo.out, if_neg hs1, if_neg hs2, hm3.out]
      exact ⟨_, _, _, rfl, hvv, hkk⟩
end Go.Proofs.Ytfmojgdomficlaa
