/-
  Texts of one hand, laid together: PiqOpen.
-/
import Derived.Test.YtemkloildadokaaZB
import Derived.Deep.Slices
import Derived.SizedLaws
import Derived.ChangeSlices
set_option linter.unusedVariables false
set_option linter.unusedSimpArgs false
/-! What comes in, opened: steps, lines. -/
namespace Go.Proofs.Ytemkloildadokaa
open Go.RowKit Go.Proofs.YtemkloildadokaaW.PrintWords Go.ChangeShapes Go.WideShapes Go.Deep
section
variable {H : Type} {enc : TypeId × Value → H} {w : World} {base : Nat} {spare : Nat → Bool} {held : Bool}
theorem cells_int : Try.prog.cellsOf 3 = 1 := by kernel_rfl
theorem cells_do : Try.prog.cellsOf 34 = 1 := by kernel_rfl
theorem cells_pstep : Try.prog.cellsOf 36 = 3 := by kernel_rfl
set_option maxRecDepth 100000 in
theorem open_pstep {n : Nat} {cs : List Value} {x : DataW H × List MemPlace} (h : DataW.trod enc Try.prog w base spare held n 36 cs = some x) : ∃ r : PStep, cs = pstepCells r := by
  obtain ⟨xs, k, _, _, hl, hx, hf⟩ := DataW.trod_struct Try.underlying36 h
  rw [cells_pstep] at hl
  match xs, hx, cs, hl with
  | [y0, y1, y2], _, [v0, v1, v2], _ =>
    have g0 := hf 0 _ rfl
    have g1 := hf 1 _ rfl
    have g2 := hf 2 _ rfl
    simp [cells_int, cells_do] at g0 g1 g2
    obtain ⟨a, ha, _⟩ := DataW.trod_int Try.underlying3 g0
    obtain ⟨b, hb, _⟩ := DataW.trod_int Try.underlying34 g1
    obtain ⟨c, hc, _⟩ := DataW.trod_int Try.underlying3 g2
    refine ⟨⟨a, b, c⟩, ?_⟩
    simp at ha hb hc
    simp only [pstepCells]
    rw [ha, hb, hc]
set_option maxRecDepth 100000 in
theorem open_psteprow {n : Nat} {cs : List Value} {x : DataW H × List MemPlace} (h : DataW.trod enc Try.prog w base spare held n 22 cs = some x) :
    ∃ A len cap l, cs = [.slice A len cap] ∧ len ≤ cap ∧ l.length = len ∧ PStepRow w A l.length l := by
  rcases open_slice Try.underlying22 h with ⟨rfl, _⟩ | ⟨a, len, cap, m, n, D, Pl, rfl, hb, hlc, hm, hmm, _, hel⟩
  · exact ⟨none, 0, 0, [], rfl, Nat.le_refl _, rfl, Kd.C_nil _ _⟩
  · have hlm : len ≤ m := by rw [hmm]; split <;> omega
    have each : ∀ i, i < len → ∃ r : PStep, ∀ j u, (pstepCells r)[j]? = some u → w.cell? (a.add (i * 3 + j)) = some u := by
      intro i hi
      obtain ⟨cs', h1, h2⟩ := hel i (by omega)
      rw [cells_pstep] at h1
      obtain ⟨_, hlen, hcell⟩ := World.cells?_some h1
      obtain ⟨r, rfl⟩ := open_pstep h2
      refine ⟨r, fun j u hu => ?_⟩
      have hj : j < 3 := (List.getElem?_eq_some_iff.1 hu).1
      have := hcell j hj
      rw [hu] at this
      rw [← this, Addr.add_add]
    have hch : ∃ f : Nat → PStep, ∀ i, i < len → ∀ j u, (pstepCells (f i))[j]? = some u → w.cell? (a.add (i * 3 + j)) = some u := by
      refine ⟨fun i => if h : i < len then (each i h).choose else ⟨0, 0, 0⟩, fun i hi => ?_⟩
      simp only [dif_pos hi]
      exact (each i hi).choose_spec
    obtain ⟨f, hfc⟩ := hch
    have hll : ((List.range len).map f).length = len := by simp
    refine ⟨some a, len, cap, (List.range len).map f, rfl, hlc, hll, rfl, by rw [hll]; simp only [maxLen] at hm; omega, fun _ => ⟨a, rfl, fun j p hj => ?_⟩⟩
    have hjl : j < len := by rw [← hll]; exact (List.getElem?_eq_some_iff.1 hj).1
    obtain rfl : f j = p := by simpa [hjl] using hj
    exact ⟨_, rfl, kPStep_mk w (f j), fun i u hu => hfc j hjl i u hu⟩
end
theorem sized_psteps {H : Type} {enc : TypeId × Value → H} {W : World} {base : Nat} {spare : Nat → Bool} {held : Bool} {a : Option Addr} {len cap : Nat} {d : DataW H} {ps : List MemPlace} {ts : List TypeId} {ds : List (DataW H)} {j : Nat}
    (hsz : (DataW.weightsEach Try.prog ts ds).all (· ≤ reachBytes) = true) (ht : ts[j]? = some 22) (hd : ds[j]? = some d)
    (h : DataW.Trod enc Try.prog W base spare held 22 (.slice a len cap) d ps) : len * 24 ≤ 140737488351232 := by
  obtain ⟨fuel, hf⟩ := h
  rcases open_slice Try.underlying22 hf with ⟨hcs, _⟩ | ⟨x, l, c, m, n, D, Pl, hcs, _, hlc, _, hmm, hx, _⟩
  · simp [Value.cells] at hcs
    obtain ⟨rfl, rfl, rfl⟩ := hcs
    simp
  · simp [Value.cells] at hcs
    obtain ⟨rfl, rfl, rfl⟩ := hcs
    obtain ⟨hx, _⟩ := Prod.mk.inj hx
    subst hx
    have z := sized_slice hsz ht hd Try.underlying22
    have hB : Try.prog.bytesOf 36 = 24 := by kernel_rfl
    rw [hB] at z
    simp only [List.length_map, List.length_range] at z
    refine Nat.le_trans (Nat.mul_le_mul_right _ ?_) z
    omega
set_option maxRecDepth 100000 in
theorem open_pstepval {H : Type} {enc : TypeId × Value → H} {W : World} {base : Nat} {spare : Nat → Bool} {held : Bool} {r : Reach} {b0 : Nat} {v : Value} {d : DataW H} {p : List MemPlace} (hv : Value.okWide Try.prog W r b0 36 v) (h : DataW.Trod enc Try.prog W base spare held 36 v d p) : ∃ s : PStep, v = .agg #[.int .i64 s.at_, .int .i64 s.do_, .int .i64 s.key] := by
  obtain ⟨cs, rfl, hsz⟩ := okWide_struct Try.underlying36 hv
  obtain ⟨fuel, hf⟩ := h
  obtain ⟨n, hn⟩ := open_pstep hf
  refine ⟨n, ?_⟩
  have e : cs.toList = pstepCells n := by simpa [Value.cells] using hn
  congr 1
  apply Array.toList_inj.1
  rw [e]; rfl
end Go.Proofs.Ytemkloildadokaa
