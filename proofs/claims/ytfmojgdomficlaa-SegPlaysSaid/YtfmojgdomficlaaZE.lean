/-
  Texts of one hand, laid together: SegMake, SegMakeW, SegOps1, SegOps2, SegOps3, SegDrop.
-/
import Derived.Test.YtfmojgdomficlaaZD
set_option linter.unusedVariables false
set_option linter.unusedSimpArgs false
/-! A device with memory of its own. -/
namespace Go.Proofs.Ytfmojgdomficlaa
open Go.RowKit Go.Shelf Go.Proofs.YtfmojgdomficlaaW.PrintWords

/-- Bounds of a device that is formed, and of what becomes of it. -/
structure SmallD (d : SDisk) : Prop where
  files : d.files.length ≤ 100000
  list : d.list.length ≤ 100000
  recs : ∀ f ∈ d.files, f.recs.length ≤ 100000
/-- The files as they lie in their row. -/
theorem raw_files {w : World} {A : Option Addr} {n : Nat} : ∀ {fs : List SFile}, FileRow w A n fs → ∃ rs : List RF, rs.length = fs.length ∧ Kd.C kRF w A n rs ∧ ∀ (i : Nat) (r : RF) (f : SFile), rs[i]? = some r → fs[i]? = some f → r.no = f.no ∧ r.safe = f.safe ∧ r.n = f.recs.length ∧ r.n ≤ r.c ∧ RecRow w r.A f.recs.length f.recs := by
  intro fs h
  obtain ⟨h1, h2, h3⟩ := h
  have key : ∀ m, m ≤ fs.length → ∃ rs : List RF, rs.length = m ∧ ∀ (i : Nat) (r : RF) (f : SFile), rs[i]? = some r → fs[i]? = some f → r.no = f.no ∧ r.safe = f.safe ∧ r.n = f.recs.length ∧ r.n ≤ r.c ∧ RecRow w r.A f.recs.length f.recs ∧ ∀ ad, A = some ad → ∀ j u, [Value.int .i64 r.no, r.v, .int .i64 r.safe][j]? = some u → w.cell? (ad.add (i * 3 + j)) = some u := by
    intro m
    induction m with
    | zero => exact fun _ => ⟨[], rfl, fun i r f hr => by simp at hr⟩
    | succ m ih =>
      intro hm
      obtain ⟨rs, hl, hrs⟩ := ih (by omega)
      obtain ⟨ad, e1, e2⟩ := h3 (by omega)
      obtain ⟨c, e3, e4, e5⟩ := e2 m fs[m] (List.getElem?_eq_getElem (by omega))
      obtain ⟨A', c', rfl, e6, e7⟩ := kSFile_open e4
      refine ⟨rs ++ [⟨fs[m].no, A', fs[m].recs.length, c', fs[m].safe⟩], by simp [hl], fun i r f hr hf => ?_⟩
      rcases Nat.lt_trichotomy i m with hi | hi | hi
      · rw [List.getElem?_append_left (by omega)] at hr
        exact hrs i r f hr hf
      · subst hi
        rw [List.getElem?_append_right (by omega)] at hr
        simp [hl] at hr
        rw [List.getElem?_eq_getElem (by omega)] at hf
        cases hf; subst hr
        exact ⟨rfl, rfl, rfl, e6, e7, fun ad' ha j u hu => by rw [e1] at ha; cases ha; exact e5 j u hu⟩
      · rw [List.getElem?_eq_none (by simp [hl]; omega)] at hr
        cases hr
  obtain ⟨rs, hl, hrs⟩ := key fs.length (Nat.le_refl _)
  refine ⟨rs, hl, ⟨by omega, h2, fun hp => ?_⟩, fun i r f hr hf => by obtain ⟨a1, a2, a3, a4, a5, _⟩ := hrs i r f hr hf; exact ⟨a1, a2, a3, a4, a5⟩⟩
  obtain ⟨ad, e1, _⟩ := h3 hp
  refine ⟨ad, e1, fun j r hr => ?_⟩
  have hj := (List.getElem?_eq_some_iff.1 hr).1
  obtain ⟨_, _, _, _, _, a6⟩ := hrs j r (fs[j]'(by omega)) hr (List.getElem?_eq_getElem _)
  exact ⟨_, rfl, ⟨[_], _, rfl, rfl, [_], [_], rfl, rfl, rfl⟩, a6 ad e1⟩
/-- While a device is made: the first files have rows of their own. -/
structure Making (h0 : Nat) (w0 w : World) (b : Nat) (vf vl : Value) (rs : List RF) (d : SDisk) (k : Nat) : Prop where
  dk : DOwn h0 w b vf vl rs d → True
  hb : h0 ≤ b
  box : Cells w b #[vf, vl] 79
  files : Own kRF 62 w h0 vf rs
  len : rs.length = d.files.length
  rel : ∀ (i : Nat) (r : RF) (f : SFile), rs[i]? = some r → d.files[i]? = some f → r.no = f.no ∧ r.safe = f.safe ∧ (if i < k then Own kSRec 83 w h0 r.v f.recs else r.n = f.recs.length ∧ r.n ≤ r.c ∧ RecRow w0 r.A f.recs.length f.recs)
  apart : ∀ (i j : Nat) (r s : RF) (m : Nat), i < k → j < k → rs[i]? = some r → rs[j]? = some s → r.v.ownBlock = some m → s.v.ownBlock = some m → i = j
  list : Own (Kd.int .i64) 3 w h0 vl d.list
theorem Making.later {h0 : Nat} {w0 w w' : World} {b : Nat} {vf vl : Value} {rs : List RF} {d : SDisk} {k : Nat} (h : Making h0 w0 w b vf vl rs d k) (hb : Below w.heap.size w w') : Making h0 w0 w' b vf vl rs d k :=
  ⟨fun _ => trivial, h.hb, h.box.later hb, Kd.R_below h.files hb, h.len, fun i r f hr hf => by
    obtain ⟨a1, a2, a3⟩ := h.rel i r f hr hf
    refine ⟨a1, a2, ?_⟩
    split
    · rename_i hi; rw [if_pos hi] at a3; exact Kd.R_below a3 hb
    · rename_i hi; rw [if_neg hi] at a3; exact a3, h.apart, Kd.R_below h.list hb⟩
/-- One more has a row of its own. -/
theorem Making.put {h0 : Nat} {w0 w : World} {b : Nat} {vf vl : Value} {rs : List RF} {d : SDisk} {k : Nat} (h : Making h0 w0 w b vf vl rs d k) {r : RF} {f : SFile} (hr : rs[k]? = some r) (hf : d.files[k]? = some f) {g n cf : Nat} (hvf : vf = .slice (some ⟨g, 0, none⟩) n cf)
    {w1 : World} (hbl : Below w.heap.size w w1) (r' : RF) (hno : r'.no = r.no) (hsf : r'.safe = r.safe) (hown : Own kSRec 83 w1 w.heap.size r'.v f.recs) (hh : h0 ≤ w.heap.size) :
    Making h0 w0 (w1.setCell ⟨g, k * 3 + 1, none⟩ r'.v) b vf vl (rs.set k r') d (k + 1) := by
  have hil := (List.getElem?_eq_some_iff.1 hr).1
  have h1 := h.later hbl
  obtain ⟨_, cf0, hcf⟩ := own_ty h1.files (k := g) (by rw [hvf]; rfl)
  obtain ⟨_, cf2, hcf2⟩ := own_ty h.files (k := g) (by rw [hvf]; rfl)
  have far : ∀ (m : Nat), m ≠ g → (w1.setCell ⟨g, k * 3 + 1, none⟩ r'.v).heap[m]? = w1.heap[m]? := fun m hm => Below.heap_setCell w1 ⟨g, k * 3 + 1, none⟩ r'.v m hm
  obtain ⟨r1, r2, _⟩ := h.rel k r f hr hf
  have hfs := h1.files
  subst hvf
  obtain ⟨hfs2, hg2⟩ := Own_set hfs hr r' 1 (by omega) r'.v (by rw [hno, hsf]; rfl)
  have hlow : ∀ (i : Nat) (s : RF) (m : Nat), i < k → rs[i]? = some s → s.v.ownBlock = some m → m < w.heap.size := fun i s m hi hs hm => by
    have hl := (List.getElem?_eq_some_iff.1 hs).1
    obtain ⟨_, _, a3⟩ := h.rel i s (d.files[i]'(by rw [← h.len]; exact hl)) hs (List.getElem?_eq_getElem _)
    rw [if_pos hi] at a3
    obtain ⟨_, cells, hc⟩ := own_ty a3 hm
    exact (Array.getElem?_eq_some_iff.1 hc).1
  refine ⟨fun _ => trivial, h.hb, (far b (ty_ne (show w1.heap[b]? = _ from h1.box) hcf (by decide))).trans h1.box, hfs2, by rw [List.length_set]; exact h.len, fun i s x hs hx => ?_, fun i j s t m hi hj hs ht hm1 hm2 => ?_, own_step flat_int h1.list (fun m hm => by obtain ⟨_, _, hc⟩ := own_ty h1.list hm; exact far m (ty_ne hc hcf (by decide)))⟩
  · by_cases hik : i = k
    · subst hik
      rw [List.getElem?_set_self hil] at hs
      rw [hf] at hx
      cases hs; cases hx
      refine ⟨by rw [hno, r1], by rw [hsf, r2], ?_⟩
      rw [if_pos (Nat.lt_succ_self _)]
      exact own_step flat_srec (Kd.R_lower hown hh) (fun m hm => by obtain ⟨_, _, hc⟩ := own_ty hown hm; exact far m (ty_ne hc hcf (by decide)))
    · rw [List.getElem?_set_ne (Ne.symm hik)] at hs
      obtain ⟨a1, a2, a3⟩ := h1.rel i s x hs hx
      refine ⟨a1, a2, ?_⟩
      by_cases hi : i < k
      · rw [if_pos (Nat.lt_succ_of_lt hi)]
        rw [if_pos hi] at a3
        exact own_step flat_srec a3 (fun m hm => by obtain ⟨_, _, hc⟩ := own_ty a3 hm; exact far m (ty_ne hc hcf (by decide)))
      · rw [if_neg (by omega)]
        rw [if_neg hi] at a3
        exact a3
  · have hnew : ∀ (m : Nat), r'.v.ownBlock = some m → w.heap.size ≤ m := fun m hm => (own_ty hown hm).1
    by_cases hik : i = k
    · by_cases hjk : j = k
      · rw [hik, hjk]
      · subst hik
        rw [List.getElem?_set_self hil] at hs
        rw [List.getElem?_set_ne (Ne.symm hjk)] at ht
        cases hs
        have := hnew m hm1
        have := hlow j t m (by omega) ht hm2
        omega
    · by_cases hjk : j = k
      · subst hjk
        rw [List.getElem?_set_self hil] at ht
        rw [List.getElem?_set_ne (Ne.symm hik)] at hs
        cases ht
        have := hnew m hm2
        have := hlow i s m (by omega) hs hm1
        omega
      · rw [List.getElem?_set_ne (Ne.symm hik)] at hs
        rw [List.getElem?_set_ne (Ne.symm hjk)] at ht
        exact h.apart i j s t m (by omega) (by omega) hs ht hm1 hm2
theorem Making.done {h0 : Nat} {w0 w : World} {b : Nat} {vf vl : Value} {rs : List RF} {d : SDisk} (h : Making h0 w0 w b vf vl rs d d.files.length) : DOwn h0 w b vf vl rs d :=
  ⟨h.hb, h.box, h.files, ⟨h.len, fun i r f hr hf => by
    obtain ⟨a1, a2, a3⟩ := h.rel i r f hr hf
    rw [if_pos (List.getElem?_eq_some_iff.1 hf).1] at a3
    exact ⟨a1, a2, a3⟩, fun i j r s m hr hs => h.apart i j r s m (by rw [← h.len]; exact (List.getElem?_eq_some_iff.1 hr).1) (by rw [← h.len]; exact (List.getElem?_eq_some_iff.1 hs).1) hr hs⟩, h.list⟩
/-- One file's cells. -/
theorem own_cells {w : World} {h0 : Nat} {vf : Value} {rs : List RF} (h : Own kRF 62 w h0 vf rs) {i : Nat} {r : RF} (hr : rs[i]? = some r) : ∃ g cf, vf = .slice (some ⟨g, 0, none⟩) rs.length cf ∧ h0 ≤ g ∧ g < w.heap.size ∧ w.cell? ⟨g, i * 3, none⟩ = some (.int .i64 r.no) ∧ w.cell? ⟨g, i * 3 + 1, none⟩ = some r.v ∧ w.cell? ⟨g, i * 3 + 2, none⟩ = some (.int .i64 r.safe) ∧ (∀ j, w.frozen? ⟨g, j, none⟩ = false) := by
  have hil := (List.getElem?_eq_some_iff.1 hr).1
  obtain ⟨_, inner, ho, hrp⟩ := h
  obtain ⟨g, cap, rfl, h1, h2⟩ := ho.form (by omega)
  obtain ⟨cells, hc⟩ := own_typed ho g rfl
  have hlt := (Array.getElem?_eq_some_iff.1 hc).1
  have hk := kRF_open (kRF.K_of_M (hrp.2 i r hr))
  have hcl : ∀ (j : Nat) (u : Value), j < 3 → [Value.int .i64 r.no, r.v, .int .i64 r.safe][j]? = some u → w.cell? ⟨g, i * 3 + j, none⟩ = some u := fun j u hj hu => by
    have h3 : inner[i * 3 + j]? = some u := by
      have h4 : ((inner.drop (i * kRF.sz)).take kRF.sz)[j]? = some u := by rw [hk]; exact hu
      rw [List.getElem?_take_of_lt (by exact hj), List.getElem?_drop] at h4
      exact h4
    have := ho.cells (g := g) rfl (i * 3 + j) u h3
    rwa [add_plain] at this
  exact ⟨g, cap, rfl, own_base ho g rfl, hlt, hcl 0 _ (by omega) rfl, hcl 1 _ (by omega) rfl, hcl 2 _ (by omega) rfl, fun j => by simp [World.frozen?, hc]⟩
end Go.Proofs.Ytfmojgdomficlaa
set_option linter.unusedVariables false
set_option linter.unusedSimpArgs false
/-! A device with memory of its own: the walk. -/
namespace Go.Proofs.Ytfmojgdomficlaa
open Go.RowKit Go.Shelf Go.Proofs.YtfmojgdomficlaaW.PrintWords

theorem stable_below (B : Nat) (w : World) (hB : B ≤ w.heap.size) : Stable (Below B w) := fun _ _ h hb => h.trans (hb.mono (Nat.le_trans hB h.size))
set_option maxRecDepth 100000 in
set_option maxHeartbeats 8000000 in
theorem seg_own (d : SDisk) (Af Al : Option Addr) (cf cl : Nat) (w : World) (hd : DRows w Af cf Al cl d) (hS : SmallD d) :
    Calls Try.prog 47 #[.agg #[.slice Af d.files.length cf, .slice Al d.list.length cl]] w fun e w' => ∃ b vf vl rs, e = .returned (.pointer (some ⟨b, 0, none⟩)) ∧ DOwn w.heap.size w' b vf vl rs d ∧ Below w.heap.size w w' := by
  obtain ⟨hfl, hll, hrl⟩ := hS
  obtain ⟨rs0, hl0, hc0, hrel0⟩ := raw_files hd.files
  have hm : d.files.length ≤ 9223372036854775807 := hd.files.2.1
  have hcf := hd.capf
  have Hc0 := Lib.hid hc0
  have Hl0 := Lib.hid hl0
  have Hls := Lib.hid hd.list
  have Hrel0 := Lib.hid hrel0
  clear hd hc0 hl0 hrel0
  go_enter Try.func47, Try.ntmps47
  go_wp2
  have hX : ∀ X, Below (w.heap.size + 1) (w.alloc (.cells #[.slice Af d.files.length cf, .slice Al d.list.length cl] 33)) X → X.cell? ⟨w.heap.size, 0, none⟩ = some (.slice Af d.files.length cf) ∧ X.cell? ⟨w.heap.size, 1, none⟩ = some (.slice Al d.list.length cl) ∧ Below w.heap.size w X := by
    intro X hX
    have hn := Cells.later (Cells.new w #[.slice Af d.files.length cf, .slice Al d.list.length cl] 33) (by simpa using hX)
    exact ⟨hn.cell 0 _ rfl, hn.cell 1 _ rfl, below_step (below_alloc (Below.refl _ _) _) (by simpa using hX)⟩
  have HX := Lib.hid hX
  clear hX
  refine wp_region_flow [.free 0, .calm 1, .free 3, .calm 4, .group [2], .group [5], .free 6, .free 7, .fence 8, .free 9] (Below (w.heap.size + 1) (w.alloc (.cells #[.slice Af d.files.length cf, .slice Al d.list.length cl] 33))) (Below (w.heap.size + 1) (w.alloc (.cells #[.slice Af d.files.length cf, .slice Al d.list.length cl] 33))) (stable_below _ _ (by simp)) (fun _ h => h) (by kernel_rfl) (by kernel_rfl) (below_drew1 (Below.refl _ _)) ?_
  simp only [pickEnts, pickF, List.getElem?_cons_succ, List.getElem?_cons_zero, List.filterMap_cons, List.filterMap_nil, Option.map_some]
  repeat ((first | refine flow_calm (fun K hK => ?_) | refine flow_free (fun K hK => ?_) | refine float_calm (fun K hK => ?_) | refine float_free (fun K hK => ?_)); go_simp; first | (refine hK _ ?_; clear hK K) | (apply Exists.intro; (refine ⟨fun X => ?_, hK _ ?_⟩); (first | (intro hC; rfl) | rfl | (intro hC; obtain ⟨x0, x1, x2⟩ := HX.out X hC.out; go_simp; done) | (intro hC; obtain ⟨x0, x1, x2⟩ := HX.out X hC.out; go_simp; rfl)); clear hK K))
  refine flow_one (fun v X => Own kRF 62 X w.heap.size v rs0) (fun _ _ _ h hb => Kd.R_below h hb) ⟨rfl, fun X hX => ?_⟩ (fun vf X0 hX0 hV0 => ?_)
  · obtain ⟨x0, x1, x2⟩ := HX.out X hX.out
    go_simp
    rw [← Hl0.out]
    refine ⟨Below.refl _ _, (seg_copied_rf rs0 Af cf X (by rw [Hl0.out]; exact Kd.C_below Hc0.out x2) (by rw [Hl0.out]; omega)).mono ?_⟩
    rintro e w' ⟨v, rfl, h1, h2⟩
    exact ⟨v, rfl, h2, Kd.R_lower h1 x2.size⟩
  obtain ⟨A1, n1, cc1, rfl⟩ := R_slice' hV0
  refine flow_one (fun v X => Own (Kd.int .i64) 3 X w.heap.size v d.list) (fun _ _ _ h hb => Kd.R_below h hb) ⟨rfl, fun X hX => ?_⟩ (fun vl X1 hX1 hV1 => ?_)
  · obtain ⟨x0, x1, x2⟩ := HX.out X hX.out.1
    go_simp
    refine ⟨Below.refl _ _, (seg_copied_int d.list Al cl X (Kd.C_below Hls.out x2) (by omega)).mono ?_⟩
    rintro e w' ⟨v, rfl, h1, h2⟩
    exact ⟨v, rfl, h2, Kd.R_lower h1 x2.size⟩
  obtain ⟨A2, n2, cc2, rfl⟩ := R_slice' hV1
  clear hX0 hV0 hX1 hV1
  repeat ((first | refine flow_calm (fun K hK => ?_) | refine flow_free (fun K hK => ?_) | refine float_calm (fun K hK => ?_) | refine float_free (fun K hK => ?_)); go_simp; first | (refine hK _ ?_; clear hK K) | (apply Exists.intro; (refine ⟨fun X => ?_, hK _ ?_⟩); (first | (intro hC; rfl) | rfl | (intro hC; skip; go_simp; done) | (intro hC; skip; go_simp; rfl)); clear hK K))
  refine flow_fence rfl (fun X hX K hK => ?_)
  go_simp
  have hB1 := (HX.out X hX.out.1.1).2.2
  have hM : Making w.heap.size w (X.alloc (.cells #[.slice A1 n1 cc1, .slice A2 n2 cc2] 79)) X.heap.size (.slice A1 n1 cc1) (.slice A2 n2 cc2) rs0 d 0 :=
    ⟨fun _ => trivial, hB1.size, Cells.new _ _ _, Kd.R_below hX.out.1.2 (below_alloc (Below.refl _ _) _), Hl0.out, fun i r f hr hf => by
      obtain ⟨a1, a2, a3⟩ := Hrel0.out i r f hr hf
      refine ⟨a1, a2, ?_⟩
      rw [if_neg (by omega)]
      exact a3, fun i j r s m hi => by omega, Kd.R_below hX.out.2 (below_alloc (Below.refl _ _) _)⟩
  refine hK.out _ _ (fun Y => Making w.heap.size w Y X.heap.size (.slice A1 n1 cc1) (.slice A2 n2 cc2) rs0 d 0 ∧ Below w.heap.size w Y) (fun Y => Making w.heap.size w Y X.heap.size (.slice A1 n1 cc1) (.slice A2 n2 cc2) rs0 d 0 ∧ Below w.heap.size w Y) (fun Y Y' hY hb => ⟨hY.1.later hb, below_step hY.2 hb⟩) (fun _ h => h) ⟨hM, below_alloc hB1 _⟩ ?_
  obtain ⟨A', c', he, -, -⟩ := own_reads' hM.files
  clear hK K hM hB1 hX
  generalize X.heap.size = b
  injection he with e1 e2 e3
  subst e1 e2 e3
  repeat ((first | refine flow_calm (fun K hK => ?_) | refine flow_free (fun K hK => ?_) | refine float_calm (fun K hK => ?_) | refine float_free (fun K hK => ?_)); go_simp; first | (refine hK _ ?_; clear hK K) | (apply Exists.intro; (refine ⟨fun X => ?_, hK _ ?_⟩); (first | (intro hC; rfl) | rfl | (intro hC; skip; go_simp; done) | (intro hC; skip; go_simp; rfl)); clear hK K))
  refine flow_nil ?_
  intro W hW
  obtain ⟨hM, hB⟩ := hW.out
  clear hW HX
  have hlr : rs0.length ≤ 100000 := by rw [Hl0.out]; exact hfl
  have q0 := hM.box.cell 0 _ rfl
  go_wp2
  clear q0
  go_loopw [4, 20] (fun _ i wr => ∃ (k : Nat) (rs : List RF), k ≤ rs0.length ∧ i = .int .i64 k ∧ Making w.heap.size w wr b (.slice A1 rs0.length cc1) (.slice A2 n2 cc2) rs d k ∧ Below w.heap.size w wr) (fun _ i _ => rs0.length - (intOf i).toNat)
  case atStart => exact ⟨0, rs0, Nat.zero_le _, rfl, hM, hB⟩
  case round =>
    obtain ⟨k, rs, hk, rfl, hMk, hBk⟩ := hrel
    have hln := hMk.len
    by_cases hlt : k < rs0.length
    · obtain ⟨r, hr⟩ : ∃ r, rs[k]? = some r := ⟨_, List.getElem?_eq_getElem (by rw [hln, ← Hl0.out]; exact hlt)⟩
      obtain ⟨f, hf⟩ : ∃ f, d.files[k]? = some f := ⟨_, List.getElem?_eq_getElem (by rw [← Hl0.out]; exact hlt)⟩
      obtain ⟨a1, a2, a3⟩ := hMk.rel k r f hr hf
      rw [if_neg (by omega)] at a3
      obtain ⟨a3, a4, a5⟩ := a3
      obtain ⟨g, cf', hvf, hg0, hgl, g0, g1, g2, gf⟩ := own_cells hMk.files hr
      have hrl' := hrl f (List.mem_of_getElem? hf)
      obtain ⟨rno, rA, rn, rc, rsafe⟩ := r
      simp only at a1 a2 a3 a4 a5 g0 g1 g2
      subst a3
      injection hvf with e1 e2 e3
      subst e1
      have q0 := hMk.box.cell 0 _ rfl
      have Hr := Lib.hid hr
      have Hf := Lib.hid hf
      have Ha5 := Lib.hid a5
      have Hg1 := Lib.hid g1
      have Hgf := Lib.hid gf
      have Hq0 := Lib.hid q0
      clear hr hf a1 a2 a5 g0 g1 g2 gf q0 hln e2 e3
      go_wp2
      refine wp_region_flow [.free 0, .free 1, .free 2, .free 3, .calm 4, .free 5, .free 6, .free 7, .free 8, .free 9, .calm 10, .free 11, .free 12, .free 13, .calm 14, .group [15], .free 16, .free 17, .fence 18] (Below wr.heap.size wr) (Below wr.heap.size wr) (stable_below _ _ (Nat.le_refl _)) (fun _ h => h) (by kernel_rfl) (by kernel_rfl) (below_drew1 (Below.refl _ _)) ?_
      simp only [pickEnts, pickF, List.getElem?_cons_succ, List.getElem?_cons_zero, List.filterMap_cons, List.filterMap_nil, Option.map_some]
      repeat ((first | refine flow_calm (fun K hK => ?_) | refine flow_free (fun K hK => ?_) | refine float_calm (fun K hK => ?_) | refine float_free (fun K hK => ?_)); go_simp; first | (refine hK _ ?_; clear hK K) | (apply Exists.intro; (refine ⟨fun X => ?_, hK _ ?_⟩); (first | (intro hC; rfl) | rfl | (intro hC; have x0 := cell_keep hC.out Hq0.out; have x1 := cell_keep hC.out Hg1.out; go_simp; done) | (intro hC; have x0 := cell_keep hC.out Hq0.out; have x1 := cell_keep hC.out Hg1.out; go_simp; rfl)); clear hK K))
      refine flow_one (fun v X => Own kSRec 83 X wr.heap.size v f.recs) (fun _ _ _ h hb => Kd.R_below h hb) ⟨rfl, fun X hX => ?_⟩ (fun v X0 hX0 hV0 => ?_)
      · go_simp
        refine ⟨Below.refl _ _, (seg_copied_srec f.recs rA rc X (Kd.C_below Ha5.out (below_step hBk hX.out)) (by omega)).mono ?_⟩
        rintro e w' ⟨v, rfl, h1, h2⟩
        exact ⟨v, rfl, h2, Kd.R_lower h1 hX.out.size⟩
      obtain ⟨A3, n3, c3, rfl⟩ := R_slice' hV0
      clear hX0 hV0
      repeat ((first | refine flow_calm (fun K hK => ?_) | refine flow_free (fun K hK => ?_) | refine float_calm (fun K hK => ?_) | refine float_free (fun K hK => ?_)); go_simp; first | (refine hK _ ?_; clear hK K) | (apply Exists.intro; (refine ⟨fun X => ?_, hK _ ?_⟩); (first | (intro hC; rfl) | rfl | (intro hC; skip; go_simp; done) | (intro hC; skip; go_simp; rfl)); clear hK K))
      refine flow_fence rfl (fun X hX K hK => ?_)
      have x1 := cell_keep hX.out.1 Hg1.out
      have xf : X.frozen? ⟨g, k * 3 + 1, none⟩ = false := ((bcell hX.out.1).2 g _ hgl).trans (Hgf.out _)
      have xc : X.cell? ⟨g, k * 3 + 1, none⟩ = some (.slice rA f.recs.length rc) := x1
      clear x1
      go_simp
      have hP := hMk.put Hr.out Hf.out rfl hX.out.1 ⟨rno, A3, n3, c3, rsafe⟩ rfl rfl hX.out.2 hBk.size
      have hb1 : Below w.heap.size w (X.setCell ⟨g, k * 3 + 1, none⟩ (.slice A3 n3 c3)) := (below_step hBk hX.out.1).setCell (p := ⟨g, k * 3 + 1, none⟩) hg0 _
      refine hK.out _ _ (fun Y => Making w.heap.size w Y b (.slice (some ⟨g, 0, none⟩) rs0.length cc1) (.slice A2 n2 cc2) (rs.set k ⟨rno, A3, n3, c3, rsafe⟩) d (k + 1) ∧ Below w.heap.size w Y) (fun Y => Making w.heap.size w Y b (.slice (some ⟨g, 0, none⟩) rs0.length cc1) (.slice A2 n2 cc2) (rs.set k ⟨rno, A3, n3, c3, rsafe⟩) d (k + 1) ∧ Below w.heap.size w Y) (fun Y Y' hY hb => ⟨hY.1.later hb, below_step hY.2 hb⟩) (fun _ h => h) ⟨hP, hb1⟩ ?_
      refine flow_nil ?_
      intro Y hY
      obtain ⟨hM2, hB2⟩ := hY.out
      clear hY hX xf xc hP hb1 hK K
      go_wp2
      exact ⟨⟨k + 1, _, by omega, by go_num, hM2, hB2⟩, by simp [intOf]; omega⟩
    · have hkl : k = d.files.length := by rw [← Hl0.out]; omega
      have hD : DOwn w.heap.size wr b (.slice A1 rs0.length cc1) (.slice A2 n2 cc2) rs d := by rw [hkl] at hMk; exact hMk.done
      clear hkl
      go_wp2
      go_ret
      exact ⟨b, _, _, rs, rfl, hD, hBk⟩
end Go.Proofs.Ytfmojgdomficlaa
set_option linter.unusedVariables false
set_option linter.unusedSimpArgs false
/-! Small steps of a device: a record, is it full, a fresh file, sync. -/
namespace Go.Proofs.Ytfmojgdomficlaa
open Go.RowKit Go.Shelf Go.Proofs.YtfmojgdomficlaaW.PrintWords

def recOf (n : News) : SRec := ⟨n, segSum n⟩
def lastNo (d : SDisk) : Int := (d.files.getLast?.getD default).no
def freshD (d : SDisk) (recs : List SRec) : SDisk := ⟨d.files ++ [⟨lastNo d + 1, recs, recs.length⟩], d.list⟩
/-- Nothing else that lay is turned. -/
def Spares (w w' : World) (vf : Value) (b : Nat) : Prop := ∀ k, k < w.heap.size → k ≠ b → vf.ownBlock ≠ some k → w'.heap[k]? = w.heap[k]?
theorem Spares.cells {w w' : World} {vf : Value} {b : Nat} (h : Spares w w' vf b) {B : Nat} {cs : Array Value} {t : TypeId} (hc : Cells w B cs t) (h1 : B ≠ b) (h2 : vf.ownBlock ≠ some B) : Cells w' B cs t := (h B hc.lt h1 h2).trans hc
def fullB (d : SDisk) : Bool := decide (9999 ≤ lastNo d)
theorem lastNo_get {d : SDisk} (h : d.files ≠ []) : ∃ f, d.files[d.files.length - 1]? = some f ∧ lastNo d = f.no := by
  have hp : 0 < d.files.length := List.length_pos_iff.2 h
  refine ⟨d.files[d.files.length - 1]'(by omega), List.getElem?_eq_getElem _, ?_⟩
  rw [lastNo, List.getLast?_eq_getElem?, List.getElem?_eq_getElem (by omega)]
  rfl
set_option maxRecDepth 100000 in
set_option maxHeartbeats 2000000 in
theorem seg_record (n : News) (w : World) : Calls Try.prog 86 #[.agg #[.int .i64 n.do_, .int .i64 n.src, .int .i64 n.id, .int .i64 n.ver, .int .i64 n.body.at_, .int .i64 n.body.key, .int .i64 n.body.val]] w fun e w' => e = .returned (.agg #[.int .i64 n.do_, .int .i64 n.src, .int .i64 n.id, .int .i64 n.ver, .int .i64 n.body.at_, .int .i64 n.body.key, .int .i64 n.body.val, .int .i64 (segSum n)]) ∧ Below w.heap.size w w' := by
  go_enter Try.func86, Try.ntmps86
  go_wp2
  have hX : ∀ X, Below (w.heap.size + 2) ((w.alloc (.cells #[.int .i64 n.do_, .int .i64 n.src, .int .i64 n.id, .int .i64 n.ver, .int .i64 n.body.at_, .int .i64 n.body.key, .int .i64 n.body.val] 26)).alloc (.cells #[.int .i64 0, .int .i64 0, .int .i64 0, .int .i64 0, .int .i64 0, .int .i64 0, .int .i64 0, .int .i64 0] 83)) X → Cells X w.heap.size #[.int .i64 n.do_, .int .i64 n.src, .int .i64 n.id, .int .i64 n.ver, .int .i64 n.body.at_, .int .i64 n.body.key, .int .i64 n.body.val] 26 ∧ Cells X (w.heap.size + 1) #[.int .i64 0, .int .i64 0, .int .i64 0, .int .i64 0, .int .i64 0, .int .i64 0, .int .i64 0, .int .i64 0] 83 ∧ Below w.heap.size w X := by
    intro X hX
    have h1 := (Cells.new w #[.int .i64 n.do_, .int .i64 n.src, .int .i64 n.id, .int .i64 n.ver, .int .i64 n.body.at_, .int .i64 n.body.key, .int .i64 n.body.val] 26).later (below_alloc (Below.refl _ _) (.cells #[.int .i64 0, .int .i64 0, .int .i64 0, .int .i64 0, .int .i64 0, .int .i64 0, .int .i64 0, .int .i64 0] 83))
    have h2 := Cells.new (w.alloc (.cells #[.int .i64 n.do_, .int .i64 n.src, .int .i64 n.id, .int .i64 n.ver, .int .i64 n.body.at_, .int .i64 n.body.key, .int .i64 n.body.val] 26)) #[.int .i64 0, .int .i64 0, .int .i64 0, .int .i64 0, .int .i64 0, .int .i64 0, .int .i64 0, .int .i64 0] 83
    exact ⟨h1.later (by simpa using hX), by have := h2.later (by simpa using hX); simpa using this, below_step (below_alloc (below_alloc (Below.refl _ _) _) _) (by simpa using hX)⟩
  have HX := Lib.hid hX
  clear hX
  refine wp_region_flow [.calm 0, .calm 1, .calm 2, .free 3, .fence 4] (Below (w.heap.size + 2) ((w.alloc (.cells #[.int .i64 n.do_, .int .i64 n.src, .int .i64 n.id, .int .i64 n.ver, .int .i64 n.body.at_, .int .i64 n.body.key, .int .i64 n.body.val] 26)).alloc (.cells #[.int .i64 0, .int .i64 0, .int .i64 0, .int .i64 0, .int .i64 0, .int .i64 0, .int .i64 0, .int .i64 0] 83))) (Below (w.heap.size + 2) ((w.alloc (.cells #[.int .i64 n.do_, .int .i64 n.src, .int .i64 n.id, .int .i64 n.ver, .int .i64 n.body.at_, .int .i64 n.body.key, .int .i64 n.body.val] 26)).alloc (.cells #[.int .i64 0, .int .i64 0, .int .i64 0, .int .i64 0, .int .i64 0, .int .i64 0, .int .i64 0, .int .i64 0] 83))) (stable_below _ _ (by simp)) (fun _ h => h) (by kernel_rfl) (by kernel_rfl) (below_drew1 (Below.refl _ _)) ?_
  simp only [pickEnts, pickF, List.getElem?_cons_succ, List.getElem?_cons_zero, List.filterMap_cons, List.filterMap_nil, Option.map_some]
  repeat ((first | refine flow_calm (fun K hK => ?_) | refine flow_free (fun K hK => ?_) | refine float_calm (fun K hK => ?_) | refine float_free (fun K hK => ?_)); go_simp; first | (refine hK _ ?_; clear hK K) | (apply Exists.intro; (refine ⟨fun X => ?_, hK _ ?_⟩); (first | (intro hC; rfl) | rfl | (intro hC; obtain ⟨x, -, -⟩ := HX.out X hC.out; have c0 := x.cell 0 _ rfl; have c1 := x.cell 1 _ rfl; have c2 := x.cell 2 _ rfl; have c3 := x.cell 3 _ rfl; have c4 := x.cell 4 _ rfl; have c5 := x.cell 5 _ rfl; have c6 := x.cell 6 _ rfl; go_simp; done) | (intro hC; obtain ⟨x, -, -⟩ := HX.out X hC.out; have c0 := x.cell 0 _ rfl; have c1 := x.cell 1 _ rfl; have c2 := x.cell 2 _ rfl; have c3 := x.cell 3 _ rfl; have c4 := x.cell 4 _ rfl; have c5 := x.cell 5 _ rfl; have c6 := x.cell 6 _ rfl; go_simp; rfl) | (intro hC; (with_reducible refine (seg_Sum n _).mono ?_); rintro e w' ⟨rfl, hb⟩; exact ⟨rfl, hb⟩)); clear hK K))
  refine flow_fence rfl (fun X hX K hK => ?_)
  obtain ⟨-, x, hb⟩ := HX.out X hX.out
  have c0 := x.cell 0 _ rfl
  have c1 := x.cell 1 _ rfl
  have c2 := x.cell 2 _ rfl
  have c3 := x.cell 3 _ rfl
  have c4 := x.cell 4 _ rfl
  have c5 := x.cell 5 _ rfl
  have c6 := x.cell 6 _ rfl
  have c7 := x.cell 7 _ rfl
  have cf := x.frozen
  go_simp
  have hF := ((((((((x.setAt 0 (.int .i64 n.do_)).setAt 1 (.int .i64 n.src)).setAt 2 (.int .i64 n.id)).setAt 3 (.int .i64 n.ver)).setAt 4 (.int .i64 n.body.at_)).setAt 5 (.int .i64 n.body.key)).setAt 6 (.int .i64 n.body.val)).setAt 7 (.int .i64 (segSum n)))
  have hb' := ((((((((hb.setCell (p := ⟨w.heap.size + 1, 0, none⟩) (by simp) (.int .i64 n.do_)).setCell (p := ⟨w.heap.size + 1, 1, none⟩) (by simp) (.int .i64 n.src)).setCell (p := ⟨w.heap.size + 1, 2, none⟩) (by simp) (.int .i64 n.id)).setCell (p := ⟨w.heap.size + 1, 3, none⟩) (by simp) (.int .i64 n.ver)).setCell (p := ⟨w.heap.size + 1, 4, none⟩) (by simp) (.int .i64 n.body.at_)).setCell (p := ⟨w.heap.size + 1, 5, none⟩) (by simp) (.int .i64 n.body.key)).setCell (p := ⟨w.heap.size + 1, 6, none⟩) (by simp) (.int .i64 n.body.val)).setCell (p := ⟨w.heap.size + 1, 7, none⟩) (by simp) (.int .i64 (segSum n)))
  refine hK.out _ _ (fun Y => Cells Y (w.heap.size + 1) #[.int .i64 n.do_, .int .i64 n.src, .int .i64 n.id, .int .i64 n.ver, .int .i64 n.body.at_, .int .i64 n.body.key, .int .i64 n.body.val, .int .i64 (segSum n)] 83 ∧ Below w.heap.size w Y) (fun Y => Cells Y (w.heap.size + 1) #[.int .i64 n.do_, .int .i64 n.src, .int .i64 n.id, .int .i64 n.ver, .int .i64 n.body.at_, .int .i64 n.body.key, .int .i64 n.body.val, .int .i64 (segSum n)] 83 ∧ Below w.heap.size w Y) (fun Y Y' hY hb => ⟨hY.1.later hb, below_step hY.2 hb⟩) (fun _ h => h) ⟨by simpa using hF, hb'⟩ ?_
  refine flow_nil ?_
  intro Y hY
  obtain ⟨y, hB⟩ := hY.out
  clear hY hX x c0 c1 c2 c3 c4 c5 c6 c7 cf hF hb' hb hK K HX
  have c0 := y.cell 0 _ rfl
  have c1 := y.cell 1 _ rfl
  have c2 := y.cell 2 _ rfl
  have c3 := y.cell 3 _ rfl
  have c4 := y.cell 4 _ rfl
  have c5 := y.cell 5 _ rfl
  have c6 := y.cell 6 _ rfl
  have c7 := y.cell 7 _ rfl
  go_wp2
  exact bodyPost_ret (v := .agg #[.int .i64 n.do_, .int .i64 n.src, .int .i64 n.id, .int .i64 n.ver, .int .i64 n.body.at_, .int .i64 n.body.key, .int .i64 n.body.val, .int .i64 (segSum n)]) (by simp [results, Try.results86, go_sem, c0, c1, c2, c3, c4, c5, c6, c7]) rfl ⟨rfl, hB⟩
/-- What the numbers of a device's files must be. -/
structure NoOk (d : SDisk) : Prop where
  ne : d.files ≠ []
  low : 0 ≤ lastNo d
  high : lastNo d ≤ 9999
set_option maxRecDepth 100000 in
set_option maxHeartbeats 2000000 in
theorem seg_full (d : SDisk) (b : Nat) (Af Al : Option Addr) (cf cl : Nat) (w : World) (hd : DAt w b Af cf Al cl d) (hne : d.files ≠ []) :
    Calls Try.prog 87 #[.pointer (some ⟨b, 0, none⟩)] w fun e w' => e = .returned (.bool (fullB d)) ∧ Below w.heap.size w w' := by
  have c0 := hd.c0
  have hcf := hd.capf
  have hm : d.files.length ≤ 9223372036854775807 := hd.files.2.1
  have hp : 0 < d.files.length := List.length_pos_iff.2 hne
  obtain ⟨f, hf, hlf⟩ := lastNo_get hne
  obtain ⟨m, hml⟩ : ∃ m, d.files.length = m + 1 := ⟨d.files.length - 1, by omega⟩
  have hmlt : m < d.files.length := by omega
  rw [show d.files.length - 1 = m by omega] at hf
  obtain ⟨f', ad, Ar, cr, -, -, hget, rfl, e0, -, -, -, -⟩ := sfile_at hd.files m hmlt
  obtain rfl : f = f' := by rw [hf] at hget; exact Option.some.inj hget
  have hwr : IntKind.i64.wrap ((d.files.length : Int) - 1) = (m : Int) := by rw [IntWalk.i64_in _ (by omega)]; omega
  have Hwr := Lib.hid hwr
  have Hfb := Lib.hid (show fullB d = decide (9999 ≤ f.no) by rw [fullB, hlf])
  have C0 := Lib.hid c0
  have E0 := Lib.hid e0
  clear hwr hml hf hlf hget hd c0 e0
  go_enter Try.func87, Try.ntmps87
  go_wp2
  refine wp_region_flow [.free 0, .free 1, .free 2, .free 3, .calm 4, .free 5, .free 6, .free 7, .free 8, .calm 9, .free 10, .free 11, .free 12, .free 13, .calm 14, .free 15, .free 16] (Below w.heap.size w) (Below w.heap.size w) (stable_below _ _ (Nat.le_refl _)) (fun _ h => h) (by kernel_rfl) (by kernel_rfl) (below_drew1 (Below.refl _ _)) ?_
  simp only [pickEnts, pickF, List.getElem?_cons_succ, List.getElem?_cons_zero, List.filterMap_cons, List.filterMap_nil, Option.map_some]
  repeat ((first | refine flow_calm (fun K hK => ?_) | refine flow_free (fun K hK => ?_) | refine float_calm (fun K hK => ?_) | refine float_free (fun K hK => ?_)); go_simp; (try simp only [Hwr.out]); first | (refine hK _ ?_; clear hK K) | (apply Exists.intro; (refine ⟨fun X => ?_, hK _ ?_⟩); (first | (intro hC; rfl) | rfl | (intro hC; have c0 := cell_keep hC.out C0.out; have e0 := cell_keep hC.out E0.out; go_simp; done) | (intro hC; have c0 := cell_keep hC.out C0.out; have e0 := cell_keep hC.out E0.out; go_simp; rfl)); clear hK K))
  refine flow_nil ?_
  intro X hX
  go_wp2
  go_ret
  exact ⟨by rw [Hfb.out]; rfl, hX.out⟩
set_option maxRecDepth 100000 in
set_option maxHeartbeats 4000000 in
theorem seg_fresh (d : SDisk) (h0 : Nat) (b : Nat) (vf vl : Value) (rs : List RF) (A : Option Addr) (n c : Nat) (recs : List SRec) (w : World) (hd : DOwn h0 w b vf vl rs d) (hno : NoOk d) (hs : d.files.length ≤ 100000)
    (hv : Own kSRec 83 w h0 (.slice A n c) recs) (hnew : ∀ s ∈ rs, ∀ k, s.v.ownBlock = some k → (Value.slice A n c).ownBlock ≠ some k) (hh : h0 ≤ w.heap.size) :
    Calls Try.prog 88 #[.pointer (some ⟨b, 0, none⟩), .slice A n c] w fun e w' => ∃ vf' rs', e = .returned (.int .i64 (lastNo d + 1)) ∧ DOwn h0 w' b vf' vl rs' (freshD d recs) ∧ Below h0 w w' ∧ Spares w w' vf b := by
  obtain ⟨hne, hl0, hl9⟩ := hno
  obtain ⟨Af, cf, Al, cl, rfl, rfl, hda⟩ := hd.reads
  have c0 := hda.c0
  have hcf := hda.capf
  have hp : 0 < d.files.length := List.length_pos_iff.2 hne
  obtain ⟨f, hf, hlf⟩ := lastNo_get hne
  obtain ⟨m, hml⟩ : ∃ m, d.files.length = m + 1 := ⟨d.files.length - 1, by omega⟩
  have hmlt : m < d.files.length := by omega
  rw [show d.files.length - 1 = m by omega] at hf
  obtain ⟨f', ad, Ar, cr, -, -, hget, rfl, e0, -, -, -, -⟩ := sfile_at hda.files m hmlt
  obtain rfl : f = f' := by rw [hf] at hget; exact Option.some.inj hget
  have hwr : IntKind.i64.wrap ((d.files.length : Int) - 1) = (m : Int) := by rw [IntWalk.i64_in _ (by omega)]; omega
  obtain rfl : n = recs.length := by
    obtain ⟨A', c', he, -, -⟩ := own_reads' hv
    injection he
  rw [hlf] at hl0 hl9
  have hwr2 : IntKind.i64.wrap (f.no + 1) = f.no + 1 := by rw [IntWalk.i64_in _ (by omega)]
  have Hwr := Lib.hid hwr
  have Hwr2 := Lib.hid hwr2
  have Hlf := Lib.hid hlf
  have Hd := Lib.hid hd
  have Hv := Lib.hid hv
  have Hnew := Lib.hid hnew
  have C0 := Lib.hid c0
  have E0 := Lib.hid e0
  clear hwr hwr2 hml hf hlf hget hd hda c0 e0 hv hnew
  go_enter Try.func88, Try.ntmps88
  go_wp2
  refine wp_region_flow [.free 0, .free 1, .free 2, .free 3, .calm 4, .free 5, .free 6, .free 7, .free 8, .calm 9, .free 10, .free 11, .free 12, .free 13, .calm 14, .free 15, .free 16] (Below w.heap.size w) (Below w.heap.size w) (stable_below _ _ (Nat.le_refl _)) (fun _ h => h) (by kernel_rfl) (by kernel_rfl) (below_drew1 (Below.refl _ _)) ?_
  simp only [pickEnts, pickF, List.getElem?_cons_succ, List.getElem?_cons_zero, List.filterMap_cons, List.filterMap_nil, Option.map_some]
  repeat ((first | refine flow_calm (fun K hK => ?_) | refine flow_free (fun K hK => ?_) | refine float_calm (fun K hK => ?_) | refine float_free (fun K hK => ?_)); go_simp; (try simp only [Hwr.out, Hwr2.out]); first | (refine hK _ ?_; clear hK K) | (apply Exists.intro; (refine ⟨fun X => ?_, hK _ ?_⟩); (first | (intro hC; rfl) | rfl | (intro hC; have c0 := cell_keep hC.out C0.out; have e0 := cell_keep hC.out E0.out; go_simp; done) | (intro hC; have c0 := cell_keep hC.out C0.out; have e0 := cell_keep hC.out E0.out; go_simp; rfl)); clear hK K))
  refine flow_nil ?_
  intro X hX
  have hB := hX.out
  clear hX
  have hDX := Hd.out.later hB
  have hVX := Kd.R_below Hv.out hB
  have c0 := cell_keep hB C0.out
  have HD := Lib.hid hDX
  have HV := Lib.hid hVX
  clear hDX hVX
  go_wp2_with (at_builtin; refine Kd.R_append kRF (w0 := X) h0 rfl _ _ 30 62 (.agg #[.int .i64 0, .slice none 0 0, .int .i64 0]) 40 rfl (by kernel_rfl) (by kernel_rfl) rfl (by decide) (by omega) (.slice (some ad) d.files.length cf) rs ⟨f.no + 1, A, recs.length, c, recs.length⟩ [.int .i64 (f.no + 1), .slice A recs.length c, .int .i64 recs.length] (fun _ => True) (fun _ => False) rfl rfl (kRF_mkM _ _ _ _) (fun _ h => h.elim) (fun _ _ => trivial) HD.out.files (Below.refl _ _) (by have := hB.size; omega) (by rw [HD.out.rows.len]; omega) ?_; intro v1 w1 r1 r2 r3 r4; obtain ⟨A1, n1, c1, rfl⟩ := R_slice' r1; have hbx := HD.out.box.kept r3 HD.out.box_ne.1; have k0 := hbx.cell 0 _ rfl; have kf := hbx.frozen 0)
  have hty : ∀ k, (Value.slice (some ad) d.files.length cf).ownBlock = some k → ∃ cells t, X.heap[k]? = some (.cells cells t (0, 0)) ∧ t ≠ 83 := fun k hk => by
    obtain ⟨_, hc⟩ := HD.out.file_ne hk
    exact ⟨_, _, hc, by decide⟩
  have hrows := (HD.out.rows.other r3 (fun k cells hk hc => by obtain ⟨_, _, hc', hne⟩ := hty k hk; rw [hc] at hc'; cases hc'; exact hne rfl)).snoc ⟨f.no + 1, A, recs.length, c, recs.length⟩ ⟨lastNo d + 1, recs, recs.length⟩ (by rw [Hlf.out]) rfl (own_grown_ty flat_srec HV.out r3 hty) Hnew.out
  have hfin := HD.out.put_files r3 (.slice A1 n1 c1) _ (freshD d recs).files r1 hrows
  go_ret
  exact ⟨_, _, by rw [Hlf.out]; rfl, hfin, ((below_base (Below.mono hB hh) (Below.refl _ _) (Nat.le_trans hh hB.size)).trans r2).setCell (p := ⟨b, 0, none⟩) HD.out.hb _, fun k hk hkb hkv => (Below.heap_setCell w1 ⟨b, 0, none⟩ _ k hkb).trans ((r3.block k (Nat.lt_of_lt_of_le hk hB.size) (fun e => hkv e.symm)).trans (hB.block k hk))⟩
/-- The types of a device's own blocks. -/
def Mine (t : TypeId) : Prop := t = 79 ∨ t = 62 ∨ t = 83 ∨ t = 3
/-- What a step turns: nothing that lay below, nothing of another type. -/
structure Kp (h0 : Nat) (w w' : World) : Prop where
  below : Below h0 w w'
  ty : ∀ (k : Nat) (cs : Array Value) (t : TypeId), Cells w k cs t → ¬ Mine t → w'.heap[k]? = w.heap[k]?
abbrev MineAt (w : World) (B : Nat) : Prop := ∃ cs t, Cells w B cs t ∧ Mine t
theorem Kp.size {h0 : Nat} {w w' : World} (h : Kp h0 w w') : w.heap.size ≤ w'.heap.size := h.below.size
theorem Kp.of {h0 : Nat} {w w' : World} (hb : Below w.heap.size w w') (hh : h0 ≤ w.heap.size) : Kp h0 w w' := ⟨Below.mono hb hh, fun k _ _ hc _ => hb.block k hc.lt⟩
theorem Kp.trans {h0 : Nat} {w w' w'' : World} (h : Kp h0 w w') (h' : Kp h0 w' w'') : Kp h0 w w'' := ⟨h.below.trans h'.below, fun k cs t hc hm => (h'.ty k cs t ((h.ty k cs t hc hm).trans hc) hm).trans (h.ty k cs t hc hm)⟩
theorem Kp.later {h0 : Nat} {w w' w'' : World} (h : Kp h0 w w') (hb : Below w'.heap.size w' w'') (hh : h0 ≤ w'.heap.size) : Kp h0 w w'' := h.trans (.of hb hh)
theorem Kp.setCell {h0 : Nat} {w w' : World} (h : Kp h0 w w') {p : Addr} (hp : h0 ≤ p.block) (hm : MineAt w' p.block) (v : Value) : Kp h0 w (w'.setCell p v) := by
  refine ⟨h.below.setCell hp v, fun k cs t hc hn => ?_⟩
  have e := h.ty k cs t hc hn
  by_cases hk : k = p.block
  · subst hk
    obtain ⟨cs', t', hc', hm'⟩ := hm
    have e2 : w'.heap[p.block]? = some (.cells cs t (0, 0)) := e.trans hc
    rw [show w'.heap[p.block]? = some (.cells cs' t' (0, 0)) from hc'] at e2
    cases e2
    exact absurd hm' hn
  · exact (Below.heap_setCell w' p v k hk).trans e
theorem cells_ty {X : World} {k : Nat} {cs cs' : Array Value} {t t' : TypeId} (h : Cells X k cs t) (h' : Cells X k cs' t') : t = t' := by
  have h1 : X.heap[k]? = some (.cells cs t (0, 0)) := h
  have h2 : X.heap[k]? = some (.cells cs' t' (0, 0)) := h'
  rw [h1] at h2
  cases h2
  rfl
theorem Kp.grown {h0 : Nat} {w X w1 : World} (h : Kp h0 w X) (r2 : Below h0 X w1) {row : Option Nat} (r3 : X.grownBy w1 row) (hm : ∀ k, row = some k → MineAt X k) : Kp h0 w w1 := by
  refine ⟨h.below.trans r2, fun k cs t hc hn => ?_⟩
  have e := h.ty k cs t hc hn
  have hcX : Cells X k cs t := e.trans hc
  refine (r3.block k hcX.lt fun hk => ?_).trans e
  obtain ⟨cs', t', hc', hm'⟩ := hm k hk.symm
  exact hn (cells_ty hc' hcX ▸ hm')
theorem Kp.spares {h0 b : Nat} {w X w1 : World} {vf : Value} (h : Kp h0 w X) (r2 : Below h0 X w1) (hs : Spares X w1 vf b) (hb : MineAt X b) (hm : ∀ k, vf.ownBlock = some k → MineAt X k) : Kp h0 w w1 := by
  refine ⟨h.below.trans r2, fun k cs t hc hn => ?_⟩
  have e := h.ty k cs t hc hn
  have hcX : Cells X k cs t := e.trans hc
  have key : ∀ B, MineAt X B → k ≠ B := fun B ⟨cs', t', hc', hm'⟩ hk => by
    subst hk
    exact hn (cells_ty hc' hcX ▸ hm')
  exact (hs k hcX.lt (key b hb) (fun e => key k (hm k e) rfl)).trans e
theorem Kp.cells {h0 : Nat} {w w' : World} (h : Kp h0 w w') {B : Nat} {cs : Array Value} {t : TypeId} (hc : Cells w B cs t) (hn : ¬ Mine t) : Cells w' B cs t := (h.ty B cs t hc hn).trans hc
theorem mine_set {w : World} {B : Nat} (h : MineAt w B) (k : Nat) (v : Value) : MineAt (w.setCell ⟨B, k, none⟩ v) B := by obtain ⟨cs, t, hc, hm⟩ := h; exact ⟨_, _, hc.setAt k v, hm⟩
theorem DOwn.mineB {h0 : Nat} {w : World} {b : Nat} {vf vl : Value} {rs : List RF} {d : SDisk} (h : DOwn h0 w b vf vl rs d) : MineAt w b := ⟨_, _, h.box, .inl rfl⟩
theorem DOwn.mineV {h0 : Nat} {w : World} {b : Nat} {vf vl : Value} {rs : List RF} {d : SDisk} (h : DOwn h0 w b vf vl rs d) : ∀ k, vf.ownBlock = some k → MineAt w k := fun k hk => by obtain ⟨_, cs, hc⟩ := own_ty h.files hk; exact ⟨cs, _, hc, .inr (.inl rfl)⟩
theorem DOwn.mineF {h0 : Nat} {w : World} {b g n c : Nat} {vl : Value} {rs : List RF} {d : SDisk} (h : DOwn h0 w b (.slice (some ⟨g, 0, none⟩) n c) vl rs d) : MineAt w g := h.mineV g rfl
theorem DOwn.mineL {h0 : Nat} {w : World} {b : Nat} {vf vl : Value} {rs : List RF} {d : SDisk} (h : DOwn h0 w b vf vl rs d) : ∀ k, vl.ownBlock = some k → MineAt w k := fun k hk => by obtain ⟨_, cs, hc⟩ := own_ty h.list hk; exact ⟨cs, _, hc, .inr (.inr (.inr rfl))⟩
theorem own_mine {h0 : Nat} {w : World} {v : Value} {l : List SRec} (h : Own kSRec 83 w h0 v l) : ∀ k, v.ownBlock = some k → MineAt w k := fun k hk => by obtain ⟨_, cs, hc⟩ := own_ty h hk; exact ⟨cs, _, hc, .inr (.inr (.inl rfl))⟩
/-- What a step leaves. -/
def DiskPost (h0 b : Nat) (ok : Bool) (d' : SDisk) (w : World) (e : Ending) (w' : World) : Prop := ∃ vf vl rs, e = .returned (.bool ok) ∧ DOwn h0 w' b vf vl rs d' ∧ Kp h0 w w'
def fileAt (d : SDisk) (i : Nat) : SFile := d.files[i]?.getD default
def syncD (d : SDisk) (i : Nat) : SDisk := ⟨d.files.set i ⟨(fileAt d i).no, (fileAt d i).recs, (fileAt d i).recs.length⟩, d.list⟩
/-- The open file is there. -/
structure OpenOk (d : SDisk) (i : Nat) : Prop where
  ne : d.list ≠ []
  at_ : placeI (openNo d) d.files 0 = some i
theorem OpenOk.lt {d : SDisk} {i : Nat} (h : OpenOk d i) : i < d.files.length := by
  obtain ⟨_, f, h1, _⟩ := placeI_spec _ _ _ _ h.at_
  exact (List.getElem?_eq_some_iff.1 h1).1
theorem fileAt_get {d : SDisk} {i : Nat} (h : i < d.files.length) : d.files[i]? = some (fileAt d i) := by
  rw [fileAt, List.getElem?_eq_getElem h]; rfl
set_option maxRecDepth 100000 in
set_option maxHeartbeats 4000000 in
theorem seg_sync (d : SDisk) (h0 : Nat) (b : Nat) (vf vl : Value) (rs : List RF) (i : Nat) (s : SStep) (w : World) (hd : DOwn h0 w b vf vl rs d) (ho : OpenOk d i) (hh : h0 ≤ w.heap.size) :
    Calls Try.prog 68 #[.pointer (some ⟨b, 0, none⟩), .agg #[.int .i64 s.do_, .int .i64 s.k, .int .i64 s.stop, .bool s.torn, .int .i64 s.news.do_, .int .i64 s.news.src, .int .i64 s.news.id, .int .i64 s.news.ver, .int .i64 s.news.body.at_, .int .i64 s.news.body.key, .int .i64 s.news.body.val]] w (DiskPost h0 b true (syncD d i) w) := by
  have hil := ho.lt
  have hf := fileAt_get hil
  obtain ⟨r, hr⟩ : ∃ r, rs[i]? = some r := ⟨_, List.getElem?_eq_getElem (by rw [hd.rows.len]; exact hil)⟩
  obtain ⟨r1, r2, r3⟩ := hd.rows.rel i r _ hr hf
  obtain ⟨g, cf, rfl, hg0, hgl, -, g1, g2, gf⟩ := hd.cells hr
  obtain ⟨Af, cf', Al, cl, hvf, rfl, hda⟩ := hd.reads
  injection hvf with e1 e2 e3
  subst e1 e3
  obtain ⟨rno, rA, rn, rc, rsafe⟩ := r
  obtain rfl : rn = (fileAt d i).recs.length := by
    obtain ⟨A', c', he, -, -⟩ := own_reads' r3
    injection he
  have Hd := Lib.hid hd
  have Hda := Lib.hid hda
  have Ho := Lib.hid ho
  have Hr := Lib.hid hr
  have Hf := Lib.hid hf
  have Hg1 := Lib.hid g1
  have Hg2 := Lib.hid g2
  have Hgf := Lib.hid gf
  clear hd hda hr hf g1 g2 gf r1 r2 r3 ho
  go_enter Try.func68, Try.ntmps68
  go_wp2_with (first
    | (go_at_call 85; refine (seg_open d b ⟨g, 0, none⟩ _ _ _ i _ Ho.out.ne Ho.out.at_ (Hda.out.later (below_alloc (Below.refl _ _) _))).mono ?_; rintro e w2 ⟨rfl, hb2⟩; have hB2 : Below w.heap.size w w2 := below_step (below_alloc (Below.refl _ _) _) (by simpa using hb2); have q1 : w2.cell? ⟨g, i * 3 + 1, none⟩ = _ := cell_keep hB2 Hg1.out; have q2 : w2.cell? ⟨g, i * 3 + 2, none⟩ = _ := cell_keep hB2 Hg2.out; have qf : w2.frozen? ⟨g, i * 3 + 2, none⟩ = false := ((bcell hB2).2 g _ hgl).trans (Hgf.out _)))
  go_ret
  exact ⟨_, _, _, rfl, (Hd.out.later hB2).put_safe Hr.out Hf.out rfl _, (Kp.of hB2 hh).setCell (p := ⟨g, i * 3 + 2, none⟩) hg0 (Hd.out.later hB2).mineF _⟩
end Go.Proofs.Ytfmojgdomficlaa
set_option linter.unusedVariables false
set_option linter.unusedSimpArgs false
/-! Writing to a device. -/
namespace Go.Proofs.Ytfmojgdomficlaa
open Go.RowKit Go.Shelf Go.Proofs.YtfmojgdomficlaaW.PrintWords

theorem lit_row {α : Type} (d : Kd α) (W : World) (B : Nat) (x : α) (cs : List Value) (t : TypeId) (hc : Cells W B cs.toArray t) (hK : d.K W x cs) : ReadsRow (d.K W) d.sz W (some ⟨B, 0, none⟩) 1 [x] :=
  ⟨rfl, by omega, fun _ => ⟨_, rfl, fun j p hj => by
    have hj0 : j = 0 := by have := (List.getElem?_eq_some_iff.1 hj).1; simp at this; exact this
    subst hj0
    obtain rfl : x = p := by simpa using hj
    refine ⟨cs, d.K_len hK, hK, fun i u hu => ?_⟩
    have := hc.cell i u (by simpa using hu)
    rw [Nat.zero_mul, Nat.zero_add, add_plain]
    exact this⟩⟩
/-- A file's row of records has been grown, or made anew; it is not stored yet. -/
def Grew (h0 : Nat) (b : Nat) (vf vl : Value) (rs : List RF) (d : SDisk) (r : RF) (v1 : Value) (recs : List SRec) (Z : World) : Prop :=
  ∃ Y, DOwn h0 Y b vf vl rs d ∧ Y.grownBy Z r.v.ownBlock ∧ Own kSRec 83 Z h0 v1 recs ∧ (v1.ownBlock = r.v.ownBlock ∨ ∀ k, v1.ownBlock = some k → Y.heap.size ≤ k)
theorem below_grown {w w' : World} (h : Below w.heap.size w w') (row : Option Nat) : w.grownBy w' row := ⟨h.os, h.tape, h.output, h.size, fun k hk _ => h.block k hk⟩
theorem Grew.later {h0 b : Nat} {vf vl : Value} {rs : List RF} {d : SDisk} {r : RF} {v1 : Value} {recs : List SRec} {Z Z' : World} (h : Grew h0 b vf vl rs d r v1 recs Z) (hb : Below Z.heap.size Z Z') : Grew h0 b vf vl rs d r v1 recs Z' := by
  obtain ⟨Y, h1, h2, h3, h4⟩ := h
  exact ⟨Y, h1, h2.trans (below_grown hb _), Kd.R_below h3 hb, h4⟩
theorem Grew.cells {h0 b : Nat} {vl : Value} {rs : List RF} {d : SDisk} {r : RF} {v1 : Value} {recs : List SRec} {Z : World} {g n cf : Nat} (h : Grew h0 b (.slice (some ⟨g, 0, none⟩) n cf) vl rs d r v1 recs Z) {i : Nat} (hr : rs[i]? = some r) :
    Z.cell? ⟨g, i * 3, none⟩ = some (.int .i64 r.no) ∧ Z.cell? ⟨g, i * 3 + 1, none⟩ = some r.v ∧ Z.cell? ⟨g, i * 3 + 2, none⟩ = some (.int .i64 r.safe) ∧ (∀ j, Z.frozen? ⟨g, j, none⟩ = false) := by
  obtain ⟨Y, h1, h2, h3, h4⟩ := h
  obtain ⟨g', cf', hvf, -, hgl, c0, c1, c2, cf⟩ := h1.cells hr
  injection hvf with e1
  injection e1 with e1
  injection e1 with e1
  subst e1
  have hk : Z.heap[g]? = Y.heap[g]? := h2.block g hgl (fun e => by
    obtain ⟨_, hc⟩ := h1.file_ne (g := g) rfl
    obtain ⟨_, _, hc'⟩ := h1.rows.typed (List.mem_of_getElem? hr) e.symm
    exact ty_ne hc hc' (by decide) rfl)
  exact ⟨(World.cell?_of_block (a := ⟨g, i * 3, none⟩) hk).trans c0, (World.cell?_of_block (a := ⟨g, i * 3 + 1, none⟩) hk).trans c1, (World.cell?_of_block (a := ⟨g, i * 3 + 2, none⟩) hk).trans c2, fun j => (World.frozen?_of_block (a := ⟨g, j, none⟩) hk).trans (cf j)⟩
theorem Grew.put {h0 b : Nat} {vl : Value} {rs : List RF} {d : SDisk} {r : RF} {recs : List SRec} {Z : World} {g n cf : Nat} {A : Option Addr} {m c : Nat} (h : Grew h0 b (.slice (some ⟨g, 0, none⟩) n cf) vl rs d r (.slice A m c) recs Z) {i : Nat} (hr : rs[i]? = some r) {f : SFile} (hf : d.files[i]? = some f) :
    DOwn h0 (Z.setCell ⟨g, i * 3 + 1, none⟩ (.slice A m c)) b (.slice (some ⟨g, 0, none⟩) n cf) vl (rs.set i ⟨r.no, A, m, c, r.safe⟩) ⟨d.files.set i ⟨f.no, recs, f.safe⟩, d.list⟩ := by
  obtain ⟨Y, h1, h2, h3, h4⟩ := h
  exact h1.put_recs hr hf rfl h2 ⟨r.no, A, m, c, r.safe⟩ rfl rfl recs h3 h4
theorem Grew.mineF {h0 b : Nat} {vl : Value} {rs : List RF} {d : SDisk} {r : RF} {v1 : Value} {recs : List SRec} {Z : World} {g n cf : Nat} (h : Grew h0 b (.slice (some ⟨g, 0, none⟩) n cf) vl rs d r v1 recs Z) {i : Nat} (hr : rs[i]? = some r) : MineAt Z g := by
  obtain ⟨Y, h1, h2, h3, h4⟩ := h
  obtain ⟨_, hc⟩ := h1.file_ne (g := g) rfl
  refine ⟨_, _, (h2.block g (Array.getElem?_eq_some_iff.1 hc).1 (fun e => ?_)).trans hc, .inr (.inl rfl)⟩
  obtain ⟨_, _, hc'⟩ := h1.rows.typed (List.mem_of_getElem? hr) e.symm
  exact ty_ne hc hc' (by decide) rfl
def putRecs (d : SDisk) (i : Nat) (recs : List SRec) : SDisk := ⟨d.files.set i ⟨(fileAt d i).no, recs, (fileAt d i).safe⟩, d.list⟩
def writeD (d : SDisk) (i : Nat) (n : News) : SDisk × Bool := if 16 ≤ (fileAt d i).recs.length ∨ formedB (thereOf d ++ [n]) 4 = false then (d, false) else (putRecs d i ((fileAt d i).recs ++ [recOf n]), true)
set_option maxRecDepth 100000 in
set_option maxHeartbeats 8000000 in
theorem seg_write (d : SDisk) (h0 : Nat) (b : Nat) (vf vl : Value) (rs : List RF) (i : Nat) (s : SStep) (w : World) (hd : DOwn h0 w b vf vl rs d) (ho : OpenOk d i) (hp : ∀ no ∈ d.list, (placeI no d.files 0).isSome = true) (hT : (thereOf d).length ≤ 100000) (hh : h0 ≤ w.heap.size) :
    Calls Try.prog 67 #[.pointer (some ⟨b, 0, none⟩), .agg #[.int .i64 s.do_, .int .i64 s.k, .int .i64 s.stop, .bool s.torn, .int .i64 s.news.do_, .int .i64 s.news.src, .int .i64 s.news.id, .int .i64 s.news.ver, .int .i64 s.news.body.at_, .int .i64 s.news.body.key, .int .i64 s.news.body.val]] w (DiskPost h0 b (writeD d i s.news).2 (writeD d i s.news).1 w) := by
  have hil := ho.lt
  have hf := fileAt_get hil
  obtain ⟨r, hr⟩ : ∃ r, rs[i]? = some r := ⟨_, List.getElem?_eq_getElem (by rw [hd.rows.len]; exact hil)⟩
  obtain ⟨r1, r2, r3⟩ := hd.rows.rel i r _ hr hf
  obtain ⟨g, cf, rfl, hg0, hgl, -, g1, g2, gf⟩ := hd.cells hr
  obtain ⟨Af, cf', Al, cl, hvf, rfl, hda⟩ := hd.reads
  injection hvf with e1 e2 e3
  subst e1 e3
  obtain ⟨rno, rA, rn, rc, rsafe⟩ := r
  obtain ⟨A', c', he, hlc, -⟩ := own_reads' r3
  obtain rfl : rn = (fileAt d i).recs.length := by injection he
  obtain rfl : rc = c' := by injection he
  have Hd := Lib.hid hd
  have Hda := Lib.hid hda
  have Ho := Lib.hid ho
  have Hp := Lib.hid hp
  have Hr := Lib.hid hr
  have Hf := Lib.hid hf
  have Hr3 := Lib.hid r3
  have Hg1 := Lib.hid (show w.cell? ⟨g, i * 3 + 1, none⟩ = some (.slice rA (fileAt d i).recs.length rc) from g1)
  have Hgf := Lib.hid gf
  clear hd hda hr hf g1 g2 gf r1 r2 r3 ho hp he
  by_cases h16 : 16 ≤ (fileAt d i).recs.length
  · have hw := Lib.hid (show writeD d i s.news = (d, false) by rw [writeD, if_pos (.inl h16)])
    rw [hw.out]
    have h16b : decide ((16 : Int) ≤ (fileAt d i).recs.length) = true := by simp; omega
    go_enter Try.func67, Try.ntmps67
    go_wp2_with (first
      | (go_at_call 85; refine (seg_open d b ⟨g, 0, none⟩ _ _ _ i _ Ho.out.ne Ho.out.at_ (Hda.out.later (below_alloc (Below.refl _ _) _))).mono ?_; rintro e w2 ⟨rfl, hb2⟩; have hB2 : Below w.heap.size w w2 := below_step (below_alloc (Below.refl _ _) _) (by simpa using hb2)))
    refine wp_region_flow [.free 0, .free 1, .free 2, .calm 3, .free 4, .free 5, .free 6, .free 7, .free 8, .free 9, .free 10, .free 11, .free 12, .free 13, .free 14, .free 15] (Below w2.heap.size w2) (Below w2.heap.size w2) (stable_below _ _ (Nat.le_refl _)) (fun _ h => h) (by kernel_rfl) (by kernel_rfl) (below_drew1 (Below.refl _ _)) ?_
    simp only [pickEnts, pickF, List.getElem?_cons_succ, List.getElem?_cons_zero, List.filterMap_cons, List.filterMap_nil, Option.map_some]
    repeat ((first | refine flow_calm (fun K hK => ?_) | refine flow_free (fun K hK => ?_) | refine float_calm (fun K hK => ?_) | refine float_free (fun K hK => ?_)); go_simp; first | (refine hK _ ?_; clear hK K) | (apply Exists.intro; (refine ⟨fun X => ?_, hK _ ?_⟩); (first | (intro hC; rfl) | rfl | (intro hC; have q1 : X.cell? ⟨g, i * 3 + 1, none⟩ = _ := cell_keep (below_step hB2 hC.out) Hg1.out; go_simp; done) | (intro hC; have q1 : X.cell? ⟨g, i * 3 + 1, none⟩ = _ := cell_keep (below_step hB2 hC.out) Hg1.out; go_simp; rfl)); clear hK K))
    refine flow_nil ?_
    intro X hX
    go_wp2
    go_ret
    exact ⟨_, _, rs, rfl, Hd.out.later (below_step hB2 hX.out), Kp.of (below_step hB2 hX.out) hh⟩
  · have h16b : decide ((16 : Int) ≤ (fileAt d i).recs.length) = false := by simp; omega
    have hlf : (fileAt d i).recs.length < 16 := by omega
    go_enter Try.func67, Try.ntmps67
    go_wp2_with (first
      | (go_at_call 85; refine (seg_open d b ⟨g, 0, none⟩ _ _ _ i _ Ho.out.ne Ho.out.at_ (Hda.out.later (below_alloc (Below.refl _ _) _))).mono ?_; rintro e w2 ⟨rfl, hb2⟩; have hB2 : Below w.heap.size w w2 := below_step (below_alloc (Below.refl _ _) _) (by simpa using hb2); have hS2 : Cells w2 w.heap.size #[.int .i64 s.do_, .int .i64 s.k, .int .i64 s.stop, .bool s.torn, .int .i64 s.news.do_, .int .i64 s.news.src, .int .i64 s.news.id, .int .i64 s.news.ver, .int .i64 s.news.body.at_, .int .i64 s.news.body.key, .int .i64 s.news.body.val] 58 := (Cells.new w _ _).later (by simpa using hb2)))
    have HS2 := Lib.hid hS2
    clear hS2
    refine wp_region_flow [.free 0, .free 1, .free 2, .calm 3, .free 4, .free 5, .free 6, .free 7, .free 9, .calm 10, .group [8, 11], .fence 12, .calm 13, .free 14, .free 15] (Below w2.heap.size w2) (Below w2.heap.size w2) (stable_below _ _ (Nat.le_refl _)) (fun _ h => h) (by kernel_rfl) (by kernel_rfl) (below_drew1 (Below.refl _ _)) ?_
    simp only [pickEnts, pickF, List.getElem?_cons_succ, List.getElem?_cons_zero, List.filterMap_cons, List.filterMap_nil, Option.map_some]
    repeat ((first | refine flow_calm (fun K hK => ?_) | refine flow_free (fun K hK => ?_) | refine float_calm (fun K hK => ?_) | refine float_free (fun K hK => ?_)); go_simp; first | (refine hK _ ?_; clear hK K) | (apply Exists.intro; (refine ⟨fun X => ?_, hK _ ?_⟩); (first | (intro hC; rfl) | rfl | (intro hC; have q1 : X.cell? ⟨g, i * 3 + 1, none⟩ = _ := cell_keep (below_step hB2 hC.out) Hg1.out; have x := HS2.out.later hC.out; have c4 := x.cell 4 _ rfl; have c5 := x.cell 5 _ rfl; have c6 := x.cell 6 _ rfl; have c7 := x.cell 7 _ rfl; have c8 := x.cell 8 _ rfl; have c9 := x.cell 9 _ rfl; have c10 := x.cell 10 _ rfl; go_simp; done) | (intro hC; have q1 : X.cell? ⟨g, i * 3 + 1, none⟩ = _ := cell_keep (below_step hB2 hC.out) Hg1.out; have x := HS2.out.later hC.out; have c4 := x.cell 4 _ rfl; have c5 := x.cell 5 _ rfl; have c6 := x.cell 6 _ rfl; have c7 := x.cell 7 _ rfl; have c8 := x.cell 8 _ rfl; have c9 := x.cell 9 _ rfl; have c10 := x.cell 10 _ rfl; go_simp; rfl)); clear hK K))
    refine flow_two (fun v X => Own kNews 26 X w2.heap.size v (thereOf d)) (fun v X => ∃ B, v = .slice (some ⟨B, 0, none⟩) 1 1 ∧ Cells X B #[.int .i64 s.news.do_, .int .i64 s.news.src, .int .i64 s.news.id, .int .i64 s.news.ver, .int .i64 s.news.body.at_, .int .i64 s.news.body.key, .int .i64 s.news.body.val] 26) (fun _ _ _ h hb => Kd.R_below h hb) (fun _ _ _ h hb => by obtain ⟨B, h1, h2⟩ := h; exact ⟨B, h1, h2.later hb⟩) (by decide) ⟨rfl, fun X hX => ?_⟩ ⟨rfl, fun X hX => ?_⟩ (fun v u X0 hX0 hV0 hU0 => ?_)
    · go_simp
      refine ⟨Below.refl _ _, (seg_there d b _ _ _ _ X (Hda.out.later (below_step hB2 hX.out)) Hp.out (by omega)).mono ?_⟩
      rintro e w' ⟨v, rfl, h1, h2⟩
      exact ⟨v, rfl, h2, Kd.R_lower h1 hX.out.size⟩
    · go_simp
      exact ⟨below_alloc (Below.refl _ _) _, Cells.new _ _ _⟩
    obtain ⟨A3, n3, c3, rfl⟩ := R_slice' hV0
    obtain ⟨B, rfl, -⟩ := hU0
    clear hX0 hV0
    refine flow_fence rfl (fun X hX K hK => ?_)
    obtain ⟨hb, hown, B', hB', hcB⟩ := hX.out
    cases hB'
    refine Kd.R_append_rows_step kNews (w0 := X) w2.heap.size (by rfl) (.tmp 16) (.tmp 19) 34 26 (.agg #[.int .i64 0, .int .i64 0, .int .i64 0, .int .i64 0, .int .i64 0, .int .i64 0, .int .i64 0]) 56 rfl (by kernel_rfl) (by kernel_rfl) rfl (by decide) (by omega) _ (thereOf d) [s.news] _ _ _ (fun _ => True) (fun _ => False) rfl rfl hown (lit_row kNews X B s.news [.int .i64 s.news.do_, .int .i64 s.news.src, .int .i64 s.news.id, .int .i64 s.news.ver, .int .i64 s.news.body.at_, .int .i64 s.news.body.key, .int .i64 s.news.body.val] 26 hcB (kNews_mk _ _)) (fun x cs h => by obtain rfl := kNews_open h; exact kNews_mkM _ _ _ x) (fun _ h => h.elim) (fun _ _ => trivial) (Below.refl _ _) hb.size (by omega) ?_
    intro v1 w1 r1 r2 r3 r4
    generalize hL : thereOf d ++ [s.news] = L at r1
    obtain ⟨A4, c4, rfl, hc4, hrow4⟩ := own_reads' r1
    refine hK.out _ _ (fun Y => Below w2.heap.size w2 Y ∧ NewsRow Y A4 L.length L) (fun Y => Below w2.heap.size w2 Y ∧ NewsRow Y A4 L.length L) (fun Y Y' hY hb => ⟨below_step hY.1 hb, Kd.C_below hY.2 hb⟩) (fun _ h => h) ⟨hb.trans r2, hrow4⟩ ?_
    clear hK K r1 r2 r3 r4 hrow4 hcB hown hb hX
    have hF := Lib.hid (show writeD d i s.news = if formedB L 4 = false then (d, false) else (putRecs d i ((fileAt d i).recs ++ [recOf s.news]), true) by simp only [writeD, Nat.not_le.2 hlf, false_or, hL])
    clear hL
    cases hfb : formedB L 4
    · have Hfb := Lib.hid hfb
      clear hfb
      repeat ((first | refine flow_calm (fun K hK => ?_) | refine flow_free (fun K hK => ?_) | refine float_calm (fun K hK => ?_) | refine float_free (fun K hK => ?_)); go_simp; first | (refine hK _ ?_; clear hK K) | (apply Exists.intro; (refine ⟨fun X => ?_, hK _ ?_⟩); (first | (intro hC; rfl) | rfl | (intro hC; skip; go_simp; done) | (intro hC; skip; go_simp; rfl) | (intro hC; (with_reducible refine (hist_check L A4 c4 4 X hC.out.2 hc4).mono ?_); rintro e w' ⟨rfl, hb⟩; rw [Hfb.out]; exact ⟨rfl, hb⟩)); clear hK K))
      refine flow_nil ?_
      intro Y hY
      have hb2y := hY.out.1
      have hB3 := below_step hB2 hb2y
      clear hY
      have hw := Lib.hid (hF.out.trans (if_pos Hfb.out))
      go_wp2
      go_ret
      rw [hw.out]
      exact ⟨_, _, rs, rfl, Hd.out.later hB3, Kp.of hB3 hh⟩
    · have Hfb := Lib.hid hfb
      clear hfb
      repeat ((first | refine flow_calm (fun K hK => ?_) | refine flow_free (fun K hK => ?_) | refine float_calm (fun K hK => ?_) | refine float_free (fun K hK => ?_)); go_simp; first | (refine hK _ ?_; clear hK K) | (apply Exists.intro; (refine ⟨fun X => ?_, hK _ ?_⟩); (first | (intro hC; rfl) | rfl | (intro hC; skip; go_simp; done) | (intro hC; skip; go_simp; rfl) | (intro hC; (with_reducible refine (hist_check L A4 c4 4 X hC.out.2 hc4).mono ?_); rintro e w' ⟨rfl, hb⟩; rw [Hfb.out]; exact ⟨rfl, hb⟩)); clear hK K))
      refine flow_nil ?_
      intro Y hY
      have hb2y := hY.out.1
      have hB3 := below_step hB2 hb2y
      clear hY
      have hw := Lib.hid (hF.out.trans (if_neg (by rw [Hfb.out]; simp)))
      have HS3 := Lib.hid (HS2.out.later (by exact hb2y))
      go_wp2
      refine wp_region_flow [.free 0, .free 1, .free 2, .free 3, .calm 4, .free 5, .calm 6, .calm 7, .alone 8, .fence 9, .free 10, .free 11, .fence 12] (Below Y.heap.size Y) (Below Y.heap.size Y) (stable_below _ _ (Nat.le_refl _)) (fun _ h => h) (by kernel_rfl) (by kernel_rfl) (below_drew1 (Below.refl _ _)) ?_
      simp only [pickEnts, pickF, List.getElem?_cons_succ, List.getElem?_cons_zero, List.filterMap_cons, List.filterMap_nil, Option.map_some]
      repeat ((first | refine flow_calm (fun K hK => ?_) | refine flow_free (fun K hK => ?_) | refine float_calm (fun K hK => ?_) | refine float_free (fun K hK => ?_)); go_simp; first | (refine hK _ ?_; clear hK K) | (apply Exists.intro; (refine ⟨fun X => ?_, hK _ ?_⟩); (first | (intro hC; rfl) | rfl | (intro hC; have q1 : X.cell? ⟨g, i * 3 + 1, none⟩ = _ := cell_keep (below_step hB3 hC.out) Hg1.out; have x := HS3.out.later hC.out; have c4 := x.cell 4 _ rfl; have c5 := x.cell 5 _ rfl; have c6 := x.cell 6 _ rfl; have c7 := x.cell 7 _ rfl; have c8 := x.cell 8 _ rfl; have c9 := x.cell 9 _ rfl; have c10 := x.cell 10 _ rfl; go_simp; done) | (intro hC; have q1 : X.cell? ⟨g, i * 3 + 1, none⟩ = _ := cell_keep (below_step hB3 hC.out) Hg1.out; have x := HS3.out.later hC.out; have c4 := x.cell 4 _ rfl; have c5 := x.cell 5 _ rfl; have c6 := x.cell 6 _ rfl; have c7 := x.cell 7 _ rfl; have c8 := x.cell 8 _ rfl; have c9 := x.cell 9 _ rfl; have c10 := x.cell 10 _ rfl; go_simp; rfl) | (intro hC; (with_reducible refine (seg_record s.news X).mono ?_); rintro e w' ⟨rfl, hb⟩; exact ⟨rfl, hb⟩)); clear hK K))
      refine flow_alone rfl (fun X hX K hK => ?_)
      go_simp
      have hX' := hX.out
      generalize hbq : X.heap.size = B2
      have hnw : Cells (X.alloc (.cells #[.int .i64 s.news.do_, .int .i64 s.news.src, .int .i64 s.news.id, .int .i64 s.news.ver, .int .i64 s.news.body.at_, .int .i64 s.news.body.key, .int .i64 s.news.body.val, .int .i64 (segSum s.news)] 83)) B2 #[.int .i64 s.news.do_, .int .i64 s.news.src, .int .i64 s.news.id, .int .i64 s.news.ver, .int .i64 s.news.body.at_, .int .i64 s.news.body.key, .int .i64 s.news.body.val, .int .i64 (segSum s.news)] 83 := hbq ▸ Cells.new X _ _
      refine hK.out _ _ (Below Y.heap.size Y) (fun Z => Below Y.heap.size Y Z ∧ Cells Z B2 #[.int .i64 s.news.do_, .int .i64 s.news.src, .int .i64 s.news.id, .int .i64 s.news.ver, .int .i64 s.news.body.at_, .int .i64 s.news.body.key, .int .i64 s.news.body.val, .int .i64 (segSum s.news)] 83) (fun Z Z' hZ hb => ⟨hZ.1.trans (Below.mono hb hZ.1.size), hZ.2.later hb⟩) (fun _ h => h) (fun _ h => h.1) ⟨below_alloc hX' _, hnw⟩ ?_
      clear hK K hX hX' hnw hbq
      refine flow_fence rfl (fun X2 hX2 K hK => ?_)
      obtain ⟨hb2, hcB⟩ := hX2.out
      have hB4 := below_step hB3 hb2
      refine Kd.R_append_rows_step kSRec (w0 := X2) h0 (by rfl) (.tmp 28) (.tmp 32) 60 83 (.agg #[.int .i64 0, .int .i64 0, .int .i64 0, .int .i64 0, .int .i64 0, .int .i64 0, .int .i64 0, .int .i64 0]) 64 rfl (by kernel_rfl) (by kernel_rfl) rfl (by decide) (by omega) (.slice rA (fileAt d i).recs.length rc) (fileAt d i).recs [recOf s.news] _ _ _ (fun _ => True) (fun _ => False) rfl rfl (Kd.R_below Hr3.out hB4) (lit_row kSRec X2 B2 (recOf s.news) [.int .i64 s.news.do_, .int .i64 s.news.src, .int .i64 s.news.id, .int .i64 s.news.ver, .int .i64 s.news.body.at_, .int .i64 s.news.body.key, .int .i64 s.news.body.val, .int .i64 (segSum s.news)] 83 hcB (kSRec_mk _ _)) (fun x cs h => by obtain rfl := kSRec_open h; exact kSRec_mkM _ _ _ x) (fun _ h => h.elim) (fun _ _ => trivial) (Below.refl _ _) (by have := hB4.size; omega) (by omega) ?_
      intro v1 w1 r1 r2 r3 r4
      obtain ⟨A5, n5, c5, rfl⟩ := R_slice' r1
      have hG : Grew h0 b (.slice (some ⟨g, 0, none⟩) d.files.length cf) (.slice Al d.list.length cl) rs d ⟨rno, rA, (fileAt d i).recs.length, rc, rsafe⟩ (.slice A5 n5 c5) ((fileAt d i).recs ++ [recOf s.news]) w1 :=
        ⟨X2, Hd.out.later hB4, r3, r1, r4.imp id (fun ⟨q, h1, h2⟩ k hk => by rw [h1] at hk; cases hk; exact h2)⟩
      have hBw : Kp h0 w w1 := (Kp.of hB4 hh).grown r2 r3 (own_mine (Kd.R_below Hr3.out hB4))
      refine hK.out _ _ (fun Z => Grew h0 b (.slice (some ⟨g, 0, none⟩) d.files.length cf) (.slice Al d.list.length cl) rs d ⟨rno, rA, (fileAt d i).recs.length, rc, rsafe⟩ (.slice A5 n5 c5) ((fileAt d i).recs ++ [recOf s.news]) Z ∧ Kp h0 w Z ∧ h0 ≤ Z.heap.size) (fun Z => Grew h0 b (.slice (some ⟨g, 0, none⟩) d.files.length cf) (.slice Al d.list.length cl) rs d ⟨rno, rA, (fileAt d i).recs.length, rc, rsafe⟩ (.slice A5 n5 c5) ((fileAt d i).recs ++ [recOf s.news]) Z ∧ Kp h0 w Z ∧ h0 ≤ Z.heap.size) (fun Z Z' hZ hb => ⟨hZ.1.later hb, hZ.2.1.later hb hZ.2.2, Nat.le_trans hZ.2.2 hb.size⟩) (fun _ h => h) ⟨hG, hBw, by have := hBw.size; omega⟩ ?_
      clear hK K hX2 hG r1 r2 r3 r4 hcB hBw
      repeat ((first | refine flow_calm (fun K hK => ?_) | refine flow_free (fun K hK => ?_) | refine float_calm (fun K hK => ?_) | refine float_free (fun K hK => ?_)); go_simp; first | (refine hK _ ?_; clear hK K) | (apply Exists.intro; (refine ⟨fun X => ?_, hK _ ?_⟩); (first | (intro hC; rfl) | rfl | (intro hC; skip; go_simp; done) | (intro hC; skip; go_simp; rfl)); clear hK K))
      refine flow_fence rfl (fun X3 hX3 K hK => ?_)
      obtain ⟨hG, hBw, hz⟩ := hX3.out
      obtain ⟨-, q1, -, qf⟩ := hG.cells Hr.out
      have q2 := qf (i * 3 + 1)
      have q1' : X3.cell? ⟨g, i * 3 + 1, none⟩ = some (.slice rA (fileAt d i).recs.length rc) := q1
      clear q1 qf
      go_simp
      have hP := hG.put Hr.out Hf.out
      have hb5 : Kp h0 w (X3.setCell ⟨g, i * 3 + 1, none⟩ (.slice A5 n5 c5)) := hBw.setCell (p := ⟨g, i * 3 + 1, none⟩) hg0 (hG.mineF Hr.out) _
      refine hK.out _ _ (fun Z => DOwn h0 Z b (.slice (some ⟨g, 0, none⟩) d.files.length cf) (.slice Al d.list.length cl) (rs.set i ⟨rno, A5, n5, c5, rsafe⟩) (putRecs d i ((fileAt d i).recs ++ [recOf s.news])) ∧ Kp h0 w Z ∧ h0 ≤ Z.heap.size) (fun Z => DOwn h0 Z b (.slice (some ⟨g, 0, none⟩) d.files.length cf) (.slice Al d.list.length cl) (rs.set i ⟨rno, A5, n5, c5, rsafe⟩) (putRecs d i ((fileAt d i).recs ++ [recOf s.news])) ∧ Kp h0 w Z ∧ h0 ≤ Z.heap.size) (fun Z Z' hZ hb => ⟨hZ.1.later hb, hZ.2.1.later hb hZ.2.2, Nat.le_trans hZ.2.2 hb.size⟩) (fun _ h => h) ⟨hP, hb5, by have := hb5.size; omega⟩ ?_
      refine flow_nil ?_
      intro Z hZ
      go_wp2
      go_ret
      rw [hw.out]
      exact ⟨_, _, _, rfl, hZ.out.1, hZ.out.2.1⟩
end Go.Proofs.Ytfmojgdomficlaa
set_option linter.unusedVariables false
set_option linter.unusedSimpArgs false
/-! Sealing a device. -/
namespace Go.Proofs.Ytfmojgdomficlaa
open Go.RowKit Go.Shelf Go.Proofs.YtfmojgdomficlaaW.PrintWords

/-- The list has been grown, or made anew; it is not stored yet. -/
def GrewL (h0 : Nat) (b : Nat) (vf vl : Value) (rs : List RF) (d : SDisk) (v1 : Value) (l : List Int) (Z : World) : Prop :=
  ∃ Y, DOwn h0 Y b vf vl rs d ∧ Y.grownBy Z vl.ownBlock ∧ Own (Kd.int .i64) 3 Z h0 v1 l
theorem GrewL.later {h0 b : Nat} {vf vl : Value} {rs : List RF} {d : SDisk} {v1 : Value} {l : List Int} {Z Z' : World} (h : GrewL h0 b vf vl rs d v1 l Z) (hb : Below Z.heap.size Z Z') : GrewL h0 b vf vl rs d v1 l Z' := by
  obtain ⟨Y, h1, h2, h3⟩ := h
  exact ⟨Y, h1, h2.trans (below_grown hb _), Kd.R_below h3 hb⟩
theorem GrewL.box {h0 b : Nat} {vf vl : Value} {rs : List RF} {d : SDisk} {v1 : Value} {l : List Int} {Z : World} (h : GrewL h0 b vf vl rs d v1 l Z) : Cells Z b #[vf, vl] 79 := by
  obtain ⟨Y, h1, h2, h3⟩ := h
  exact h1.box.kept h2 h1.box_ne.2
theorem GrewL.put {h0 b : Nat} {vf vl : Value} {rs : List RF} {d : SDisk} {v1 : Value} {l : List Int} {Z : World} (h : GrewL h0 b vf vl rs d v1 l Z) : DOwn h0 (Z.setCell ⟨b, 1, none⟩ v1) b vf v1 rs ⟨d.files, l⟩ := by
  obtain ⟨Y, h1, h2, h3⟩ := h
  exact h1.put_list h2 v1 l h3
theorem lastNo_set (d : SDisk) (i : Nat) (recs : List SRec) (s : Int) : lastNo ⟨d.files.set i ⟨(fileAt d i).no, recs, s⟩, d.list⟩ = lastNo d := by
  unfold lastNo
  rw [List.getLast?_eq_getElem?, List.getLast?_eq_getElem?]
  simp only [List.length_set]
  by_cases h : d.files.length - 1 = i
  · rcases Nat.lt_or_ge i d.files.length with hl | hl
    · rw [h, List.getElem?_set_self hl, fileAt]
      rfl
    · rw [List.set_eq_of_length_le hl]
  · rw [List.getElem?_set_ne (Ne.symm h)]
theorem NoOk.set {d : SDisk} (h : NoOk d) (i : Nat) (recs : List SRec) (s : Int) : NoOk ⟨d.files.set i ⟨(fileAt d i).no, recs, s⟩, d.list⟩ :=
  ⟨by have := h.ne; intro e; exact this (by simpa using e), by rw [lastNo_set]; exact h.low, by rw [lastNo_set]; exact h.high⟩
def sealD (d : SDisk) (i : Nat) : SDisk × Bool := if 8 ≤ d.list.length ∨ fullB d = true then (d, false) else (⟨(freshD (syncD d i) []).files, d.list ++ [lastNo d + 1]⟩, true)
set_option maxRecDepth 100000 in
set_option maxHeartbeats 8000000 in
theorem seg_seal (d : SDisk) (h0 : Nat) (b : Nat) (vf vl : Value) (rs : List RF) (i : Nat) (s : SStep) (w : World) (hd : DOwn h0 w b vf vl rs d) (ho : OpenOk d i) (hno : NoOk d) (hs : d.files.length ≤ 90000) (hl : d.list.length ≤ 90000) (hh : h0 ≤ w.heap.size) :
    Calls Try.prog 69 #[.pointer (some ⟨b, 0, none⟩), .agg #[.int .i64 s.do_, .int .i64 s.k, .int .i64 s.stop, .bool s.torn, .int .i64 s.news.do_, .int .i64 s.news.src, .int .i64 s.news.id, .int .i64 s.news.ver, .int .i64 s.news.body.at_, .int .i64 s.news.body.key, .int .i64 s.news.body.val]] w (DiskPost h0 b (sealD d i).2 (sealD d i).1 w) := by
  obtain ⟨Af, cf, Al, cl, rfl, rfl, hda⟩ := hd.reads
  have c1 := hda.c1
  have hcl := hda.capl
  have Hd := Lib.hid hd
  have Hda := Lib.hid hda
  have Ho := Lib.hid ho
  have Hno := Lib.hid hno
  have hbw := World.block_lt_of_cell? w _ c1
  have hne := World.new_ne w _ c1
  clear hd hda ho hno
  by_cases h8 : 8 ≤ d.list.length
  · have hw := Lib.hid (show sealD d i = (d, false) by rw [sealD, if_pos (.inl h8)])
    rw [hw.out]
    have h8b : decide ((8 : Int) ≤ d.list.length) = true := by simp; omega
    go_enter Try.func69, Try.ntmps69
    go_wp2
    go_ret
    exact ⟨_, _, rs, rfl, Hd.out.later (below_alloc (Below.refl _ _) _), Kp.of (below_alloc (Below.refl _ _) _) hh⟩
  · have h8b : decide ((8 : Int) ≤ d.list.length) = false := by simp; omega
    cases hfu : fullB d
    · have hw := Lib.hid (show sealD d i = (⟨(freshD (syncD d i) []).files, d.list ++ [lastNo d + 1]⟩, true) by rw [sealD, if_neg (by simp [h8, hfu])])
      rw [hw.out]
      have Hfu := Lib.hid hfu
      clear hfu
      go_enter Try.func69, Try.ntmps69
      go_wp2_with (first
        | (go_at_call 87; refine (seg_full d b _ _ _ _ _ (Hda.out.later (below_alloc (Below.refl _ _) _)) Hno.out.ne).mono ?_; rintro e w2 ⟨rfl, hb2⟩; rw [Hfu.out]; have hB2 : Below w.heap.size w w2 := below_step (below_alloc (Below.refl _ _) _) (by simpa using hb2); obtain ⟨hc2, hf2⟩ := bcell hb2)
        | (go_at_call 68; refine (seg_sync d h0 b _ _ rs i s _ (Hd.out.later hB2) Ho.out (Nat.le_trans hh hB2.size)).mono ?_; rintro e w3 ⟨vf3, vl3, rs3, rfl, hD3, hB3⟩))
      obtain ⟨Af3, cf3, Al3, cl3, rfl, rfl, hda3⟩ := hD3.reads
      have hsz3 : h0 ≤ w3.heap.size := by have := hB3.size; have := hB2.size; omega
      have hB30 : Kp h0 w w3 := (Kp.of hB2 hh).trans hB3
      have hcl3 := hda3.capl
      have C13 := Lib.hid hda3.c1
      have hl3 : (syncD d i).list.length = d.list.length := rfl
      have HD3 := Lib.hid hD3
      rw [hl3] at C13 hcl3
      clear hD3 hda3 hl3
      refine wp_region_flow [.free 0, .free 1, .free 2, .free 3, .free 4, .calm 5, .free 6, .alone 7, .alone 8, .fence 9, .free 10, .free 11, .free 12, .fence 13] (fun X => X.cell? ⟨b, 1, none⟩ = some (.slice Al3 d.list.length cl3)) (Below w3.heap.size w3) (stable_below _ _ (Nat.le_refl _)) (fun X hX => cell_keep hX C13.out) (by kernel_rfl) (by kernel_rfl) (below_drew1 (Below.refl _ _)) ?_
      simp only [pickEnts, pickF, List.getElem?_cons_succ, List.getElem?_cons_zero, List.filterMap_cons, List.filterMap_nil, Option.map_some]
      repeat ((first | refine flow_calm (fun K hK => ?_) | refine flow_free (fun K hK => ?_) | refine float_calm (fun K hK => ?_) | refine float_free (fun K hK => ?_)); go_simp; first | (refine hK _ ?_; clear hK K) | (apply Exists.intro; (refine ⟨fun X => ?_, hK _ ?_⟩); (first | (intro hC; rfl) | rfl | (intro hC; have q := hC.out; go_simp; done) | (intro hC; have q := hC.out; go_simp; rfl)); clear hK K))
      refine flow_alone rfl (fun X hX K hK => ?_)
      go_simp
      refine (seg_fresh (syncD d i) h0 b _ _ rs3 none 0 0 [] X (HD3.out.later hX.out) (Hno.out.set i _ _) (by simp [syncD]; omega) (Kd.R_nil _ _ _ _ _) (fun _ _ k _ => by simp [Value.ownBlock]) (Nat.le_trans hsz3 hX.out.size)).mono ?_
      rintro e w4 ⟨vf4, rs4, rfl, hD4, hB4, hS4⟩
      have hln : lastNo (syncD d i) = lastNo d := lastNo_set d i _ _
      rw [hln]
      have hB40 : Kp h0 w w4 := (hB30.later hX.out hsz3).spares hB4 hS4 (HD3.out.later hX.out).mineB (HD3.out.later hX.out).mineV
      refine hK.out _ _ (fun X => X.cell? ⟨b, 1, none⟩ = some (.slice Al3 d.list.length cl3)) (fun Z => DOwn h0 Z b vf4 (.slice Al3 d.list.length cl3) rs4 (freshD (syncD d i) []) ∧ Kp h0 w Z ∧ h0 ≤ Z.heap.size) (fun Z Z' hZ hb => ⟨hZ.1.later hb, hZ.2.1.later hb hZ.2.2, Nat.le_trans hZ.2.2 hb.size⟩) (fun _ h => h) (fun Z hZ => hZ.1.box.cell 1 _ rfl) ⟨hD4, hB40, by have := hB40.size; omega⟩ ?_
      clear hK K hX hD4 hB4 hB40 hln hS4
      refine flow_alone rfl (fun X hX K hK => ?_)
      go_simp
      generalize hbq : X.heap.size = B2
      have hnw : Cells (X.alloc (.cells #[.int .i64 (lastNo d + 1)] 3)) B2 #[.int .i64 (lastNo d + 1)] 3 := hbq ▸ Cells.new X _ _
      refine hK.out _ _ (fun X => X.cell? ⟨b, 1, none⟩ = some (.slice Al3 d.list.length cl3)) (fun Z => (DOwn h0 Z b vf4 (.slice Al3 d.list.length cl3) rs4 (freshD (syncD d i) []) ∧ Kp h0 w Z ∧ h0 ≤ Z.heap.size) ∧ Cells Z B2 #[.int .i64 (lastNo d + 1)] 3) (fun Z Z' hZ hb => ⟨⟨hZ.1.1.later hb, hZ.1.2.1.later hb hZ.1.2.2, Nat.le_trans hZ.1.2.2 hb.size⟩, hZ.2.later hb⟩) (fun _ h => h) (fun Z hZ => hZ.1.1.box.cell 1 _ rfl) ⟨⟨hX.out.1.later (below_alloc (Below.refl _ _) _), hX.out.2.1.later (below_alloc (Below.refl _ _) _) hX.out.2.2, by have := hX.out.2.2; simp; omega⟩, hnw⟩ ?_
      clear hK K hX hnw hbq
      refine flow_fence rfl (fun X2 hX2 K hK => ?_)
      obtain ⟨⟨hD5, hB5, hz5⟩, hcB⟩ := hX2.out
      refine Kd.R_append_rows_step (Kd.int .i64) (w0 := X2) h0 (by rfl) (.tmp 24) (.tmp 27) 31 3 (.int .i64 0) 8 rfl (by kernel_rfl) (by kernel_rfl) rfl (by decide) (by omega) (.slice Al3 d.list.length cl3) d.list [lastNo d + 1] _ _ _ (fun _ => True) (fun _ => False) rfl rfl hD5.list (lit_row (Kd.int .i64) X2 B2 (lastNo d + 1) [.int .i64 (lastNo d + 1)] 3 hcB rfl) (fun x cs h => h) (fun _ h => h.elim) (fun _ _ => trivial) (Below.refl _ _) hz5 (by omega) ?_
      intro v1 w5 r1 r2 r3 r4
      obtain ⟨A6, n6, c6, rfl⟩ := R_slice' r1
      have hB6 := hB5.grown r2 r3 hD5.mineL
      refine hK.out _ _ (fun Z => GrewL h0 b vf4 (.slice Al3 d.list.length cl3) rs4 (freshD (syncD d i) []) (.slice A6 n6 c6) (d.list ++ [lastNo d + 1]) Z ∧ Kp h0 w Z ∧ h0 ≤ Z.heap.size) (fun Z => GrewL h0 b vf4 (.slice Al3 d.list.length cl3) rs4 (freshD (syncD d i) []) (.slice A6 n6 c6) (d.list ++ [lastNo d + 1]) Z ∧ Kp h0 w Z ∧ h0 ≤ Z.heap.size) (fun Z Z' hZ hb => ⟨hZ.1.later hb, hZ.2.1.later hb hZ.2.2, Nat.le_trans hZ.2.2 hb.size⟩) (fun _ h => h) ⟨⟨X2, hD5, r3, r1⟩, hB6, by have := hB6.size; omega⟩ ?_
      clear hK K hX2 hD5 hB5 hz5 r1 r2 r3 r4 hB6 hcB
      repeat ((first | refine flow_calm (fun K hK => ?_) | refine flow_free (fun K hK => ?_) | refine float_calm (fun K hK => ?_) | refine float_free (fun K hK => ?_)); go_simp; first | (refine hK _ ?_; clear hK K) | (apply Exists.intro; (refine ⟨fun X => ?_, hK _ ?_⟩); (first | (intro hC; rfl) | rfl | (intro hC; skip; go_simp; done) | (intro hC; skip; go_simp; rfl)); clear hK K))
      refine flow_fence rfl (fun X3 hX3 K hK => ?_)
      obtain ⟨hG, hBw, hz⟩ := hX3.out
      have q1 := hG.box.cell 1 _ rfl
      have qf := hG.box.frozen 1
      go_simp
      have hb5 : Kp h0 w (X3.setCell ⟨b, 1, none⟩ (.slice A6 n6 c6)) := hBw.setCell (p := ⟨b, 1, none⟩) HD3.out.hb ⟨_, _, hG.box, .inl rfl⟩ _
      refine hK.out _ _ (fun Z => DOwn h0 Z b vf4 (.slice A6 n6 c6) rs4 ⟨(freshD (syncD d i) []).files, d.list ++ [lastNo d + 1]⟩ ∧ Kp h0 w Z ∧ h0 ≤ Z.heap.size) (fun Z => DOwn h0 Z b vf4 (.slice A6 n6 c6) rs4 ⟨(freshD (syncD d i) []).files, d.list ++ [lastNo d + 1]⟩ ∧ Kp h0 w Z ∧ h0 ≤ Z.heap.size) (fun Z Z' hZ hb => ⟨hZ.1.later hb, hZ.2.1.later hb hZ.2.2, Nat.le_trans hZ.2.2 hb.size⟩) (fun _ h => h) ⟨hG.put, hb5, by have := hb5.size; omega⟩ ?_
      refine flow_nil ?_
      intro Z hZ
      go_wp2
      go_ret
      exact ⟨_, _, _, rfl, hZ.out.1, hZ.out.2.1⟩
    · have hw := Lib.hid (show sealD d i = (d, false) by rw [sealD, if_pos (.inr hfu)])
      rw [hw.out]
      have Hfu := Lib.hid hfu
      clear hfu
      go_enter Try.func69, Try.ntmps69
      go_wp2_with (first
        | (go_at_call 87; refine (seg_full d b _ _ _ _ _ (Hda.out.later (below_alloc (Below.refl _ _) _)) Hno.out.ne).mono ?_; rintro e w2 ⟨rfl, hb2⟩; rw [Hfu.out]; have hB2 : Below w.heap.size w w2 := below_step (below_alloc (Below.refl _ _) _) (by simpa using hb2)))
      go_ret
      exact ⟨_, _, rs, rfl, Hd.out.later hB2, Kp.of hB2 hh⟩
end Go.Proofs.Ytfmojgdomficlaa
set_option linter.unusedVariables false
set_option linter.unusedSimpArgs false
/-! Files are taken away. -/
namespace Go.Proofs.Ytfmojgdomficlaa
open Go.RowKit Go.Shelf Go.Proofs.YtfmojgdomficlaaW.PrintWords

theorem filter_idx (p : Int → Bool) : ∀ (rs : List RF) (fs : List SFile), rs.length = fs.length → (∀ (i : Nat) (r : RF) (f : SFile), rs[i]? = some r → fs[i]? = some f → r.no = f.no) →
    ∃ φ : Nat → Nat, (∀ i j, i < j → φ i < φ j) ∧ (∀ i, i < (rs.filter fun r => p r.no).length → (rs.filter fun r => p r.no)[i]? = rs[φ i]? ∧ (fs.filter fun f => p f.no)[i]? = fs[φ i]?) ∧ (rs.filter fun r => p r.no).length = (fs.filter fun f => p f.no).length
  | [], [], _, _ => ⟨id, fun _ _ h => h, fun i hi => by simp at hi, rfl⟩
  | [], _ :: _, h, _ => by simp at h
  | _ :: _, [], h, _ => by simp at h
  | r :: rs, f :: fs, h, hno => by
    obtain ⟨φ, h1, h2, h3⟩ := filter_idx p rs fs (by simpa using h) (fun i r' f' hr hf => hno (i + 1) r' f' (by simpa using hr) (by simpa using hf))
    have e := hno 0 r f rfl rfl
    by_cases hp : p r.no = true
    · have e1 : (r :: rs).filter (fun r => p r.no) = r :: rs.filter (fun r => p r.no) := List.filter_cons_of_pos (p := fun r : RF => p r.no) hp
      have e2 : (f :: fs).filter (fun f => p f.no) = f :: fs.filter (fun f => p f.no) := List.filter_cons_of_pos (p := fun f : SFile => p f.no) (by rw [← e]; exact hp)
      rw [e1, e2]
      refine ⟨fun i => match i with | 0 => 0 | k + 1 => φ k + 1, ?_, ?_, by simp [h3]⟩
      · intro i j hij
        match i, j with
        | 0, 0 => omega
        | 0, k + 1 => simp
        | k + 1, 0 => omega
        | a + 1, c + 1 => have := h1 a c (by omega); simp; omega
      · intro i hi
        match i with
        | 0 => simp
        | k + 1 =>
          have := h2 k (by simpa using hi)
          simpa using this
    · have e1 : (r :: rs).filter (fun r => p r.no) = rs.filter (fun r => p r.no) := List.filter_cons_of_neg (p := fun r : RF => p r.no) hp
      have e2 : (f :: fs).filter (fun f => p f.no) = fs.filter (fun f => p f.no) := List.filter_cons_of_neg (p := fun f : SFile => p f.no) (by rw [← e]; exact hp)
      rw [e1, e2]
      refine ⟨fun i => φ i + 1, fun i j hij => by have := h1 i j hij; simp only; omega, ?_, h3⟩
      intro i hi
      simpa using h2 i hi
theorem RowsOwn.filter {h0 : Nat} {w : World} {rs : List RF} {fs : List SFile} (h : RowsOwn h0 w rs fs) (p : Int → Bool) : RowsOwn h0 w (rs.filter fun r => p r.no) (fs.filter fun f => p f.no) := by
  obtain ⟨φ, h1, h2, h3⟩ := filter_idx p rs fs h.len (fun i r f hr hf => (h.rel i r f hr hf).1)
  refine ⟨h3, fun i r f hr hf => ?_, fun i j r s k hr hs hk1 hk2 => ?_⟩
  · obtain ⟨e1, e2⟩ := h2 i (List.getElem?_eq_some_iff.1 hr).1
    rw [e1] at hr; rw [e2] at hf
    exact h.rel _ r f hr hf
  · obtain ⟨e1, _⟩ := h2 i (List.getElem?_eq_some_iff.1 hr).1
    obtain ⟨e2, _⟩ := h2 j (List.getElem?_eq_some_iff.1 hs).1
    rw [e1] at hr; rw [e2] at hs
    have := h.apart _ _ r s k hr hs hk1 hk2
    rcases Nat.lt_trichotomy i j with hij | hij | hij
    · have := h1 i j hij; omega
    · exact hij
    · have := h1 j i hij; omega
def dropD (d : SDisk) (p : Int → Bool) : SDisk := ⟨d.files.filter fun f => p f.no, d.list⟩
/-- What a step leaves that says nothing. -/
def DropPost (h0 b : Nat) (vl : Value) (d' : SDisk) (w : World) (e : Ending) (w' : World) : Prop := ∃ vf rs, e = .returned (.tuple #[]) ∧ DOwn h0 w' b vf vl rs d' ∧ Below h0 w w' ∧ w.grownBy w' (some b)
set_option maxRecDepth 100000 in
set_option maxHeartbeats 8000000 in
theorem seg_drop1 (d : SDisk) (h0 : Nat) (b : Nat) (vf vl : Value) (rs : List RF) (gf : Nat) (c1 c2 : Value) (p : Int → Bool) (w : World) (hd : DOwn h0 w b vf vl rs d) (hs : d.files.length ≤ 100000) (hh : h0 ≤ w.heap.size) (heg : ∀ args W, (callFunc gf args).run Try.prog W = .ok (.enter gf args) W)
    (hg : ∀ (r : RF) (W : World), r ∈ rs → Below w.heap.size w W → Calls Try.prog gf #[.agg #[.int .i64 r.no, r.v, .int .i64 r.safe], c1] W fun e W' => e = .returned (.bool (!p r.no)) ∧ Below W.heap.size W W') :
    Calls Try.prog 90 #[.pointer (some ⟨b, 0, none⟩), .func (.func gf) #[] #[c1]] w (DropPost h0 b vl (dropD d p) w) := by
  obtain ⟨Af, cf, Al, cl, rfl, rfl, hda⟩ := hd.reads
  have c0 := hda.c0
  have hln := hd.rows.len
  have Hln := Lib.hid hln
  have Hd := Lib.hid hd
  have Hg := Lib.hid hg
  have hm : rs.length ≤ 100000 := by omega
  rw [← hln] at c0
  clear hd hda hg hln
  go_enter Try.func90, Try.ntmps90
  go_wp2
  go_loopw [4, 13] (fun v i wr => ∃ k : Nat, k ≤ rs.length ∧ i = .int .i64 k ∧ Own kRF 62 wr w.heap.size v ((rs.take k).filter fun r => p r.no) ∧ Below w.heap.size w wr) (fun _ i _ => rs.length - (intOf i).toNat)
  case atStart => exact ⟨0, Nat.zero_le _, rfl, Kd.R_nil _ _ _ _ _, Below.refl _ _⟩
  case round =>
    obtain ⟨k, hk, rfl, hown, hB⟩ := hrel
    obtain ⟨A0, n0, e0, rfl⟩ := R_slice' hown
    by_cases hlt : k < rs.length
    · obtain ⟨r, hr⟩ : ∃ r, rs[k]? = some r := ⟨_, List.getElem?_eq_getElem hlt⟩
      obtain ⟨g, cf', hvf, hg0, hgl, g0, g1, g2, gf'⟩ := Hd.out.cells hr
      injection hvf with e1 e2 e3
      subst e1
      have htk : (rs.take (k + 1)).filter (fun r => p r.no) = (rs.take k).filter (fun r => p r.no) ++ (if p r.no then [r] else []) := by
        rw [List.take_succ_eq_append_getElem hlt, List.filter_append]
        have : rs[k] = r := by rw [List.getElem?_eq_getElem hlt] at hr; exact Option.some.inj hr
        rw [this]
        by_cases hp : p r.no = true <;> simp [hp]
      have hrm := List.mem_of_getElem? hr
      have hlk : ((rs.take k).filter fun r => p r.no).length ≤ 100000 := by have := List.length_filter_le (fun r : RF => p r.no) (rs.take k); have := List.length_take_le k rs; omega
      obtain ⟨rno, rA, rn, rc, rsafe⟩ := r
      have q0 : wr.cell? ⟨g, k * 3, none⟩ = some (.int .i64 rno) := cell_keep hB g0
      have q1 : wr.cell? ⟨g, k * 3 + 1, none⟩ = some (.slice rA rn rc) := cell_keep hB g1
      have q2 : wr.cell? ⟨g, k * 3 + 2, none⟩ = some (.int .i64 rsafe) := cell_keep hB g2
      have Htk := Lib.hid htk
      clear hr g0 g1 g2 gf' htk e2 e3
      cases hp : p rno
      · have Hp := Lib.hid hp
        clear hp
        rw [Hp.out] at Htk
        go_wp2_with ((with_reducible refine (Hg.out ⟨rno, rA, rn, rc, rsafe⟩ _ hrm (below_alloc hB _)).mono ?_); rintro e w2 ⟨rfl, hb2⟩; rw [Hp.out])
        have hB2 : Below w.heap.size w w2 := below_step (below_alloc hB _) hb2
        exact ⟨⟨k + 1, by omega, by go_num, by rw [Htk.out]; simpa using Kd.R_below hown (below_step (below_alloc (Below.refl _ _) _) hb2), hB2⟩, by simp [intOf]; omega⟩
      · have Hp := Lib.hid hp
        clear hp
        rw [Hp.out] at Htk
        have hnw := Lib.hid (Cells.new wr #[.int .i64 rno, .slice rA rn rc, .int .i64 rsafe] 62)
        have Hown := Lib.hid hown
        clear hown
        go_wp2_with (first
          | ((with_reducible refine (Hg.out ⟨rno, rA, rn, rc, rsafe⟩ _ hrm (below_alloc hB _)).mono ?_); rintro e w2 ⟨rfl, hb2⟩; rw [Hp.out]; have hnw2 := hnw.out.later hb2; have y0 := hnw2.cell 0 _ rfl; have y1 := hnw2.cell 1 _ rfl; have y2 := hnw2.cell 2 _ rfl; have hB2 : Below w.heap.size w w2 := below_step (below_alloc hB _) hb2; have Ho2 := Lib.hid (Kd.R_below Hown.out (below_step (below_alloc (Below.refl _ _) _) hb2)))
          | (at_builtin; refine Kd.R_append kRF (w0 := w2) w.heap.size rfl _ _ 30 62 (.agg #[.int .i64 0, .slice none 0 0, .int .i64 0]) 40 rfl (by kernel_rfl) (by kernel_rfl) rfl (by decide) (by omega) (.slice A0 n0 e0) ((rs.take k).filter fun r => p r.no) ⟨rno, rA, rn, rc, rsafe⟩ [.int .i64 rno, .slice rA rn rc, .int .i64 rsafe] (fun _ => True) (fun _ => False) rfl rfl (kRF_mkM _ _ _ _) (fun _ h => h.elim) (fun _ _ => trivial) Ho2.out (Below.refl _ _) hB2.size (by omega) ?_; intro v1 w4 r1 r2 r3 r4))
        exact ⟨⟨k + 1, by omega, by go_num, by rw [Htk.out]; simpa using r1, hB2.trans r2⟩, by simp [intOf]; omega⟩
    · have hkl : k = rs.length := by omega
      rw [hkl, List.take_length] at hown
      have Hown := Lib.hid hown
      clear hown hkl
      have hDr := Hd.out.later hB
      have hbx := hDr.box.cell 0 _ rfl
      have hbf := hDr.box.frozen 0
      have HDr := Lib.hid hDr
      clear hDr
      go_wp2
      have hfin := HDr.out.put_files (below_grown (Below.refl _ _) _) (.slice A0 n0 e0) _ (dropD d p).files (Kd.R_lower Hown.out hh) (HDr.out.rows.filter p)
      refine bodyPost_ret (results_none rfl _ _ _) rfl ?_
      exact ⟨_, _, rfl, hfin, (Below.mono hB hh).setCell (p := ⟨b, 0, none⟩) Hd.out.hb _, (below_grown hB _).trans (grownBy_setCell' wr b _)⟩
set_option maxRecDepth 100000 in
set_option maxHeartbeats 8000000 in
theorem seg_drop2 (d : SDisk) (h0 : Nat) (b : Nat) (vf vl : Value) (rs : List RF) (gf : Nat) (c1 c2 : Value) (p : Int → Bool) (w : World) (hd : DOwn h0 w b vf vl rs d) (hs : d.files.length ≤ 100000) (hh : h0 ≤ w.heap.size) (heg : ∀ args W, (callFunc gf args).run Try.prog W = .ok (.enter gf args) W)
    (hg : ∀ (r : RF) (W : World), r ∈ rs → Below w.heap.size w W → Calls Try.prog gf #[.agg #[.int .i64 r.no, r.v, .int .i64 r.safe], c1, c2] W fun e W' => e = .returned (.bool (!p r.no)) ∧ Below W.heap.size W W') :
    Calls Try.prog 90 #[.pointer (some ⟨b, 0, none⟩), .func (.func gf) #[] #[c1, c2]] w (DropPost h0 b vl (dropD d p) w) := by
  obtain ⟨Af, cf, Al, cl, rfl, rfl, hda⟩ := hd.reads
  have c0 := hda.c0
  have hln := hd.rows.len
  have Hln := Lib.hid hln
  have Hd := Lib.hid hd
  have Hg := Lib.hid hg
  have hm : rs.length ≤ 100000 := by omega
  rw [← hln] at c0
  clear hd hda hg hln
  go_enter Try.func90, Try.ntmps90
  go_wp2
  go_loopw [4, 13] (fun v i wr => ∃ k : Nat, k ≤ rs.length ∧ i = .int .i64 k ∧ Own kRF 62 wr w.heap.size v ((rs.take k).filter fun r => p r.no) ∧ Below w.heap.size w wr) (fun _ i _ => rs.length - (intOf i).toNat)
  case atStart => exact ⟨0, Nat.zero_le _, rfl, Kd.R_nil _ _ _ _ _, Below.refl _ _⟩
  case round =>
    obtain ⟨k, hk, rfl, hown, hB⟩ := hrel
    obtain ⟨A0, n0, e0, rfl⟩ := R_slice' hown
    by_cases hlt : k < rs.length
    · obtain ⟨r, hr⟩ : ∃ r, rs[k]? = some r := ⟨_, List.getElem?_eq_getElem hlt⟩
      obtain ⟨g, cf', hvf, hg0, hgl, g0, g1, g2, gf'⟩ := Hd.out.cells hr
      injection hvf with e1 e2 e3
      subst e1
      have htk : (rs.take (k + 1)).filter (fun r => p r.no) = (rs.take k).filter (fun r => p r.no) ++ (if p r.no then [r] else []) := by
        rw [List.take_succ_eq_append_getElem hlt, List.filter_append]
        have : rs[k] = r := by rw [List.getElem?_eq_getElem hlt] at hr; exact Option.some.inj hr
        rw [this]
        by_cases hp : p r.no = true <;> simp [hp]
      have hrm := List.mem_of_getElem? hr
      have hlk : ((rs.take k).filter fun r => p r.no).length ≤ 100000 := by have := List.length_filter_le (fun r : RF => p r.no) (rs.take k); have := List.length_take_le k rs; omega
      obtain ⟨rno, rA, rn, rc, rsafe⟩ := r
      have q0 : wr.cell? ⟨g, k * 3, none⟩ = some (.int .i64 rno) := cell_keep hB g0
      have q1 : wr.cell? ⟨g, k * 3 + 1, none⟩ = some (.slice rA rn rc) := cell_keep hB g1
      have q2 : wr.cell? ⟨g, k * 3 + 2, none⟩ = some (.int .i64 rsafe) := cell_keep hB g2
      have Htk := Lib.hid htk
      clear hr g0 g1 g2 gf' htk e2 e3
      cases hp : p rno
      · have Hp := Lib.hid hp
        clear hp
        rw [Hp.out] at Htk
        go_wp2_with ((with_reducible refine (Hg.out ⟨rno, rA, rn, rc, rsafe⟩ _ hrm (below_alloc hB _)).mono ?_); rintro e w2 ⟨rfl, hb2⟩; rw [Hp.out])
        have hB2 : Below w.heap.size w w2 := below_step (below_alloc hB _) hb2
        exact ⟨⟨k + 1, by omega, by go_num, by rw [Htk.out]; simpa using Kd.R_below hown (below_step (below_alloc (Below.refl _ _) _) hb2), hB2⟩, by simp [intOf]; omega⟩
      · have Hp := Lib.hid hp
        clear hp
        rw [Hp.out] at Htk
        have hnw := Lib.hid (Cells.new wr #[.int .i64 rno, .slice rA rn rc, .int .i64 rsafe] 62)
        have Hown := Lib.hid hown
        clear hown
        go_wp2_with (first
          | ((with_reducible refine (Hg.out ⟨rno, rA, rn, rc, rsafe⟩ _ hrm (below_alloc hB _)).mono ?_); rintro e w2 ⟨rfl, hb2⟩; rw [Hp.out]; have hnw2 := hnw.out.later hb2; have y0 := hnw2.cell 0 _ rfl; have y1 := hnw2.cell 1 _ rfl; have y2 := hnw2.cell 2 _ rfl; have hB2 : Below w.heap.size w w2 := below_step (below_alloc hB _) hb2; have Ho2 := Lib.hid (Kd.R_below Hown.out (below_step (below_alloc (Below.refl _ _) _) hb2)))
          | (at_builtin; refine Kd.R_append kRF (w0 := w2) w.heap.size rfl _ _ 30 62 (.agg #[.int .i64 0, .slice none 0 0, .int .i64 0]) 40 rfl (by kernel_rfl) (by kernel_rfl) rfl (by decide) (by omega) (.slice A0 n0 e0) ((rs.take k).filter fun r => p r.no) ⟨rno, rA, rn, rc, rsafe⟩ [.int .i64 rno, .slice rA rn rc, .int .i64 rsafe] (fun _ => True) (fun _ => False) rfl rfl (kRF_mkM _ _ _ _) (fun _ h => h.elim) (fun _ _ => trivial) Ho2.out (Below.refl _ _) hB2.size (by omega) ?_; intro v1 w4 r1 r2 r3 r4))
        exact ⟨⟨k + 1, by omega, by go_num, by rw [Htk.out]; simpa using r1, hB2.trans r2⟩, by simp [intOf]; omega⟩
    · have hkl : k = rs.length := by omega
      rw [hkl, List.take_length] at hown
      have Hown := Lib.hid hown
      clear hown hkl
      have hDr := Hd.out.later hB
      have hbx := hDr.box.cell 0 _ rfl
      have hbf := hDr.box.frozen 0
      have HDr := Lib.hid hDr
      clear hDr
      go_wp2
      have hfin := HDr.out.put_files (below_grown (Below.refl _ _) _) (.slice A0 n0 e0) _ (dropD d p).files (Kd.R_lower Hown.out hh) (HDr.out.rows.filter p)
      refine bodyPost_ret (results_none rfl _ _ _) rfl ?_
      exact ⟨_, _, rfl, hfin, (Below.mono hB hh).setCell (p := ⟨b, 0, none⟩) Hd.out.hb _, (below_grown hB _).trans (grownBy_setCell' wr b _)⟩
end Go.Proofs.Ytfmojgdomficlaa
