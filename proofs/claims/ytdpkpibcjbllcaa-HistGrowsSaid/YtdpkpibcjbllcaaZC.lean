/-
  Texts of one hand, laid together: SortA, SortB, EqHist, Step, SortC, Range, Stands.
-/
import Derived.Test.YtdpkpibcjbllcaaZB
import Derived.Test.YtdpkpibcjbllcaaShelf
import Derived.Maps.RangeRun
import Derived.Maps.RangeWalk
set_option linter.unusedVariables false
set_option linter.unusedSimpArgs false
namespace Go.Proofs.Ytdpkpibcjbllcaa
open Go.RowKit Go.Proofs.YtdpkpibcjbllcaaW.PrintWords

/-- cmp.Compare at int. -/
def cmpI (a b : Int) : Int := if a < b then -1 else if b < a then 1 else 0
/-- slices.Compare at two lists of three. -/
def cmp3 (a0 a1 a2 b0 b1 b2 : Int) : Int := if cmpI a0 b0 ≠ 0 then cmpI a0 b0 else if cmpI a1 b1 ≠ 0 then cmpI a1 b1 else cmpI a2 b2

set_option maxHeartbeats 400000 in
theorem cmp_isNaN (x : Int) (w : World) : Calls Try.prog 108 #[.int .i64 x] w fun e w' => e = .returned (.bool false) ∧ w = w' := by
  go_enter Try.func108, Try.ntmps108
  go_wp2
  go_ret
  exact ⟨by simp, rfl⟩
set_option maxHeartbeats 400000 in
theorem cmp_compare (x y : Int) (w : World) : Calls Try.prog 89 #[.int .i64 x, .int .i64 y] w fun e w' => e = .returned (.int .i64 (cmpI x y)) ∧ w = w' := by
  unfold cmpI
  by_cases h1 : x < y
  · rw [if_pos h1]
    go_enter Try.func89, Try.ntmps89
    go_wp2_with (first | (go_at_call 108; refine (cmp_isNaN _ _).mono ?_; rintro e w' ⟨rfl, rfl⟩))
    go_ret
    exact ⟨(by first | rfl | (simp; done) | (simp [*]; done)), rfl⟩
  · rw [if_neg h1]
    by_cases h2 : y < x
    · rw [if_pos h2]
      go_enter Try.func89, Try.ntmps89
      go_wp2_with (first | (go_at_call 108; refine (cmp_isNaN _ _).mono ?_; rintro e w' ⟨rfl, rfl⟩))
      go_ret
      exact ⟨(by first | rfl | (simp; done) | (simp [*]; done)), rfl⟩
    · rw [if_neg h2]
      go_enter Try.func89, Try.ntmps89
      go_wp2_with (first | (go_at_call 108; refine (cmp_isNaN _ _).mono ?_; rintro e w' ⟨rfl, rfl⟩))
      go_ret
      exact ⟨(by first | rfl | (simp; done) | (simp [*]; done)), rfl⟩
theorem cmpI_zero {a b : Int} : cmpI a b = 0 ↔ a = b := by unfold cmpI; split <;> (try split) <;> omega

set_option maxRecDepth 100000 in
set_option maxHeartbeats 1000000 in
theorem slices_compare3 (p q : Nat) (a0 a1 a2 b0 b1 b2 : Int) (w : World) (hp0 : w.cell? ⟨p, 0, none⟩ = some (.int .i64 a0)) (hp1 : w.cell? ⟨p, 1, none⟩ = some (.int .i64 a1)) (hp2 : w.cell? ⟨p, 2, none⟩ = some (.int .i64 a2))
    (hq0 : w.cell? ⟨q, 0, none⟩ = some (.int .i64 b0)) (hq1 : w.cell? ⟨q, 1, none⟩ = some (.int .i64 b1)) (hq2 : w.cell? ⟨q, 2, none⟩ = some (.int .i64 b2)) :
    Calls Try.prog 67 #[.slice (some ⟨p, 0, none⟩) 3 3, .slice (some ⟨q, 0, none⟩) 3 3] w fun e w' => e = .returned (.int .i64 (cmp3 a0 a1 a2 b0 b1 b2)) ∧ w = w' := by
  obtain ⟨c, hc⟩ : ∃ c, cmp3 a0 a1 a2 b0 b1 b2 = c := ⟨_, rfl⟩
  rw [hc]
  have Hc := Lib.hid hc
  clear hc
  go_enter Try.func67, Try.ntmps67
  go_wp2
  go_loop [11] (fun i => ∃ k : Nat, k ≤ 3 ∧ i = .int .i64 k ∧ Hid ((1 ≤ k → cmpI a0 b0 = 0) ∧ (2 ≤ k → cmpI a1 b1 = 0) ∧ (3 ≤ k → cmpI a2 b2 = 0))) (fun i => 3 - (intOf i).toNat)
  case atStart => exact ⟨0, by omega, rfl, Lib.hid ⟨fun h => by omega, fun h => by omega, fun h => by omega⟩⟩
  case round =>
    obtain ⟨k, hk, rfl, He⟩ := hrel
    obtain rfl | rfl | rfl | rfl : k = 0 ∨ k = 1 ∨ k = 2 ∨ k = 3 := by omega
    · cases hz : (cmpI a0 b0 != 0)
      · have Hz := Lib.hid hz
        go_wp2_with (first | (go_at_call 89; refine (cmp_compare _ _ _).mono ?_; rintro e w' ⟨rfl, rfl⟩))
        have hz0 : cmpI a0 b0 = 0 := by simpa using Hz.out
        exact ⟨⟨0 + 1, by omega, by go_num, Lib.hid ⟨fun _ => (by first | exact hz0 | exact He.out.1 (by omega)), fun h => (by first | exact hz0 | exact He.out.2.1 (by omega) | omega), fun h => (by first | exact hz0 | omega)⟩⟩, by simp [intOf]⟩
      · have Hz := Lib.hid hz
        go_wp2_with (first | (go_at_call 89; refine (cmp_compare _ _ _).mono ?_; rintro e w' ⟨rfl, rfl⟩))
        go_ret
        have hz0 : cmpI a0 b0 ≠ 0 := by simpa using Hz.out
        refine ⟨?_, rfl⟩
        rw [← Hc.out]
        have h1 := He.out.1
        have h2 := He.out.2.1
        simp [cmp3, hz0, h1, h2]
    · cases hz : (cmpI a1 b1 != 0)
      · have Hz := Lib.hid hz
        go_wp2_with (first | (go_at_call 89; refine (cmp_compare _ _ _).mono ?_; rintro e w' ⟨rfl, rfl⟩))
        have hz0 : cmpI a1 b1 = 0 := by simpa using Hz.out
        exact ⟨⟨1 + 1, by omega, by go_num, Lib.hid ⟨fun _ => (by first | exact hz0 | exact He.out.1 (by omega)), fun h => (by first | exact hz0 | exact He.out.2.1 (by omega) | omega), fun h => (by first | exact hz0 | omega)⟩⟩, by simp [intOf]⟩
      · have Hz := Lib.hid hz
        go_wp2_with (first | (go_at_call 89; refine (cmp_compare _ _ _).mono ?_; rintro e w' ⟨rfl, rfl⟩))
        go_ret
        have hz0 : cmpI a1 b1 ≠ 0 := by simpa using Hz.out
        refine ⟨?_, rfl⟩
        rw [← Hc.out]
        have h1 := He.out.1
        have h2 := He.out.2.1
        simp [cmp3, hz0, h1, h2]
    · cases hz : (cmpI a2 b2 != 0)
      · have Hz := Lib.hid hz
        go_wp2_with (first | (go_at_call 89; refine (cmp_compare _ _ _).mono ?_; rintro e w' ⟨rfl, rfl⟩))
        have hz0 : cmpI a2 b2 = 0 := by simpa using Hz.out
        exact ⟨⟨2 + 1, by omega, by go_num, Lib.hid ⟨fun _ => (by first | exact hz0 | exact He.out.1 (by omega)), fun h => (by first | exact hz0 | exact He.out.2.1 (by omega) | omega), fun h => (by first | exact hz0 | omega)⟩⟩, by simp [intOf]⟩
      · have Hz := Lib.hid hz
        go_wp2_with (first | (go_at_call 89; refine (cmp_compare _ _ _).mono ?_; rintro e w' ⟨rfl, rfl⟩))
        go_ret
        have hz0 : cmpI a2 b2 ≠ 0 := by simpa using Hz.out
        refine ⟨?_, rfl⟩
        rw [← Hc.out]
        have h1 := He.out.1
        have h2 := He.out.2.1
        simp [cmp3, hz0, h1, h2]
    · go_wp2
      go_ret
      refine ⟨?_, rfl⟩
      rw [← Hc.out]
      have h1 := He.out.1 (by omega)
      have h2 := He.out.2.1 (by omega)
      have h3 := He.out.2.2 (by omega)
      simp [cmp3, h1, h2, h3]
end Go.Proofs.Ytdpkpibcjbllcaa
set_option linter.unusedVariables false
set_option linter.unusedSimpArgs false
namespace Go.Proofs.Ytdpkpibcjbllcaa
open Go.RowKit Go.Proofs.YtdpkpibcjbllcaaW.PrintWords

set_option maxHeartbeats 400000 in
theorem hist_stands1 (x : Event) (w : World) : Calls Try.prog 44 #[.agg #[.int .i64 x.src, .int .i64 x.id, .int .i64 x.body.at_, .int .i64 x.body.key, .int .i64 x.body.val]] w fun e w' => e = .returned (.slice (some ⟨w.heap.size + 1, 0, none⟩) 3 3) ∧ w' = (w.alloc (.cells #[.int .i64 x.src, .int .i64 x.id, .int .i64 x.body.at_, .int .i64 x.body.key, .int .i64 x.body.val] 49)).alloc (.cells #[.int .i64 x.body.at_, .int .i64 x.src, .int .i64 x.id] 3) := by
  go_enter Try.func44, Try.ntmps44
  go_wp2
  go_ret
  exact ⟨rfl, rfl⟩

def cmpE (a b : Event) : Int := cmp3 a.body.at_ a.src a.id b.body.at_ b.src b.id

theorem sortES_step {W1 W W' : World} {p ba bb : Nat} {a b : Event} (h : W.cell? ⟨p, 0, none⟩ = some (.func (.func 44) #[] #[]) ∧ W.cell? ⟨ba, 0, none⟩ = some (.int .i64 a.src) ∧ W.cell? ⟨ba, 1, none⟩ = some (.int .i64 a.id) ∧ W.cell? ⟨ba, 2, none⟩ = some (.int .i64 a.body.at_) ∧ W.cell? ⟨ba, 3, none⟩ = some (.int .i64 a.body.key) ∧ W.cell? ⟨ba, 4, none⟩ = some (.int .i64 a.body.val) ∧ W.cell? ⟨bb, 0, none⟩ = some (.int .i64 b.src) ∧ W.cell? ⟨bb, 1, none⟩ = some (.int .i64 b.id) ∧ W.cell? ⟨bb, 2, none⟩ = some (.int .i64 b.body.at_) ∧ W.cell? ⟨bb, 3, none⟩ = some (.int .i64 b.body.key) ∧ W.cell? ⟨bb, 4, none⟩ = some (.int .i64 b.body.val) ∧ Below W1.heap.size W1 W) (hb : Below W.heap.size W W') : W'.cell? ⟨p, 0, none⟩ = some (.func (.func 44) #[] #[]) ∧ W'.cell? ⟨ba, 0, none⟩ = some (.int .i64 a.src) ∧ W'.cell? ⟨ba, 1, none⟩ = some (.int .i64 a.id) ∧ W'.cell? ⟨ba, 2, none⟩ = some (.int .i64 a.body.at_) ∧ W'.cell? ⟨ba, 3, none⟩ = some (.int .i64 a.body.key) ∧ W'.cell? ⟨ba, 4, none⟩ = some (.int .i64 a.body.val) ∧ W'.cell? ⟨bb, 0, none⟩ = some (.int .i64 b.src) ∧ W'.cell? ⟨bb, 1, none⟩ = some (.int .i64 b.id) ∧ W'.cell? ⟨bb, 2, none⟩ = some (.int .i64 b.body.at_) ∧ W'.cell? ⟨bb, 3, none⟩ = some (.int .i64 b.body.key) ∧ W'.cell? ⟨bb, 4, none⟩ = some (.int .i64 b.body.val) ∧ Below W1.heap.size W1 W' := by
  obtain ⟨h0, h1, h2, h3, h4, h5, h6, h7, h8, h9, h10, h11⟩ := h
  exact ⟨cell_later' hb h0, cell_later' hb h1, cell_later' hb h2, cell_later' hb h3, cell_later' hb h4, cell_later' hb h5, cell_later' hb h6, cell_later' hb h7, cell_later' hb h8, cell_later' hb h9, cell_later' hb h10, below_step h11 hb⟩

set_option maxRecDepth 100000 in
set_option maxHeartbeats 2000000 in
theorem hist_sortedE1 (a b : Event) (p : Nat) (w : World) (hp : w.cell? ⟨p, 0, none⟩ = some (.func (.func 44) #[] #[])) :
    Calls Try.prog 66 #[.agg #[.int .i64 a.src, .int .i64 a.id, .int .i64 a.body.at_, .int .i64 a.body.key, .int .i64 a.body.val], .agg #[.int .i64 b.src, .int .i64 b.id, .int .i64 b.body.at_, .int .i64 b.body.key, .int .i64 b.body.val], .pointer (some ⟨p, 0, none⟩)] w fun e w' => e = .returned (.int .i64 (cmpE a b)) ∧ ∃ o1 o2 o3 o4 o5 o6, w' = ((((((w.alloc o1).alloc o2).alloc o3).alloc o4).alloc o5).alloc o6).drew := by
  have hpl : p < w.heap.size := World.block_lt_of_cell? w _ hp
  unfold cmpE
  generalize hc : cmp3 a.body.at_ a.src a.id b.body.at_ b.src b.id = c
  have Hc := Lib.hid hc
  clear hc
  go_enter Try.func66, Try.ntmps66
  go_upto_region 1 with (fail)
  have hS : ∀ W1, W1 = ((w.alloc (.cells #[.int .i64 a.src, .int .i64 a.id, .int .i64 a.body.at_, .int .i64 a.body.key, .int .i64 a.body.val] 49)).alloc (.cells #[.int .i64 b.src, .int .i64 b.id, .int .i64 b.body.at_, .int .i64 b.body.key, .int .i64 b.body.val] 49)) → W1.cell? ⟨p, 0, none⟩ = some (.func (.func 44) #[] #[]) ∧ W1.cell? ⟨w.heap.size, 0, none⟩ = some (.int .i64 a.src) ∧ W1.cell? ⟨w.heap.size, 1, none⟩ = some (.int .i64 a.id) ∧ W1.cell? ⟨w.heap.size, 2, none⟩ = some (.int .i64 a.body.at_) ∧ W1.cell? ⟨w.heap.size, 3, none⟩ = some (.int .i64 a.body.key) ∧ W1.cell? ⟨w.heap.size, 4, none⟩ = some (.int .i64 a.body.val) ∧ W1.cell? ⟨w.heap.size + 1, 0, none⟩ = some (.int .i64 b.src) ∧ W1.cell? ⟨w.heap.size + 1, 1, none⟩ = some (.int .i64 b.id) ∧ W1.cell? ⟨w.heap.size + 1, 2, none⟩ = some (.int .i64 b.body.at_) ∧ W1.cell? ⟨w.heap.size + 1, 3, none⟩ = some (.int .i64 b.body.key) ∧ W1.cell? ⟨w.heap.size + 1, 4, none⟩ = some (.int .i64 b.body.val) ∧ Below (((w.alloc (.cells #[.int .i64 a.src, .int .i64 a.id, .int .i64 a.body.at_, .int .i64 a.body.key, .int .i64 a.body.val] 49)).alloc (.cells #[.int .i64 b.src, .int .i64 b.id, .int .i64 b.body.at_, .int .i64 b.body.key, .int .i64 b.body.val] 49))).heap.size ((w.alloc (.cells #[.int .i64 a.src, .int .i64 a.id, .int .i64 a.body.at_, .int .i64 a.body.key, .int .i64 a.body.val] 49)).alloc (.cells #[.int .i64 b.src, .int .i64 b.id, .int .i64 b.body.at_, .int .i64 b.body.key, .int .i64 b.body.val] 49)) W1 := by
    intro W1 e
    subst e
    refine ⟨by go_simp, by go_simp, by go_simp, by go_simp, by go_simp, by go_simp, by go_simp, by go_simp, by go_simp, by go_simp, by go_simp, Below.refl _ _⟩
  have hSb := hS _ rfl
  clear hS hp
  go_region_held3 (fun W => W.cell? ⟨p, 0, none⟩ = some (.func (.func 44) #[] #[]) ∧ W.cell? ⟨w.heap.size, 0, none⟩ = some (.int .i64 a.src) ∧ W.cell? ⟨w.heap.size, 1, none⟩ = some (.int .i64 a.id) ∧ W.cell? ⟨w.heap.size, 2, none⟩ = some (.int .i64 a.body.at_) ∧ W.cell? ⟨w.heap.size, 3, none⟩ = some (.int .i64 a.body.key) ∧ W.cell? ⟨w.heap.size, 4, none⟩ = some (.int .i64 a.body.val) ∧ W.cell? ⟨w.heap.size + 1, 0, none⟩ = some (.int .i64 b.src) ∧ W.cell? ⟨w.heap.size + 1, 1, none⟩ = some (.int .i64 b.id) ∧ W.cell? ⟨w.heap.size + 1, 2, none⟩ = some (.int .i64 b.body.at_) ∧ W.cell? ⟨w.heap.size + 1, 3, none⟩ = some (.int .i64 b.body.key) ∧ W.cell? ⟨w.heap.size + 1, 4, none⟩ = some (.int .i64 b.body.val) ∧ Below (((w.alloc (.cells #[.int .i64 a.src, .int .i64 a.id, .int .i64 a.body.at_, .int .i64 a.body.key, .int .i64 a.body.val] 49)).alloc (.cells #[.int .i64 b.src, .int .i64 b.id, .int .i64 b.body.at_, .int .i64 b.body.key, .int .i64 b.body.val] 49))).heap.size ((w.alloc (.cells #[.int .i64 a.src, .int .i64 a.id, .int .i64 a.body.at_, .int .i64 a.body.key, .int .i64 a.body.val] 49)).alloc (.cells #[.int .i64 b.src, .int .i64 b.id, .int .i64 b.body.at_, .int .i64 b.body.key, .int .i64 b.body.val] 49)) W)
    (first | assumption | exact sortES_step (by assumption) (below_alloc (Below.refl _ _) _) | exact sortES_step hSb (by repeat (first | exact Below.refl _ _ | apply below_alloc | apply below_drew1)))
    (first | (go_at_call 44; (first | (with_reducible refine (hist_stands1 a _).mono ?_) | (with_reducible refine (hist_stands1 b _).mono ?_)); rintro e w' ⟨rfl, rfl⟩) | (go_at_call 67; refine (slices_compare3 _ _ a.body.at_ a.src a.id b.body.at_ b.src b.id _ (by go_simp) (by go_simp) (by go_simp) (by go_simp) (by go_simp) (by go_simp)).mono ?_; rintro e w' ⟨rfl, rfl⟩))
  go_wp2
  go_ret
  exact ⟨by rw [← Hc.out]; rfl, _, _, _, _, _, _, rfl⟩
set_option maxHeartbeats 400000 in
theorem hist_least1 (x : News) (w : World) : Calls Try.prog 76 #[.agg #[.int .i64 x.do_, .int .i64 x.src, .int .i64 x.id, .int .i64 x.ver, .int .i64 x.body.at_, .int .i64 x.body.key, .int .i64 x.body.val]] w fun e w' => e = .returned (.slice (some ⟨w.heap.size + 1, 0, none⟩) 3 3) ∧ w' = (w.alloc (.cells #[.int .i64 x.do_, .int .i64 x.src, .int .i64 x.id, .int .i64 x.ver, .int .i64 x.body.at_, .int .i64 x.body.key, .int .i64 x.body.val] 38)).alloc (.cells #[.int .i64 x.src, .int .i64 (kN1 x), .int .i64 (kN2 x)] 3) := by
  by_cases h : x.do_ = 3
  · have h3 : (x.do_ == 3) = true := by simpa using h
    have e1 : kN1 x = 1 := by simp [kN1, h]
    have e2 : kN2 x = 0 := by simp [kN2, h]
    rw [e1, e2]
    clear e1 e2 h
    go_enter Try.func76, Try.ntmps76
    go_wp2
    go_ret
    exact ⟨rfl, rfl⟩
  · have h3 : (x.do_ == 3) = false := by simpa using h
    have e1 : kN1 x = 0 := by simp [kN1, h]
    have e2 : kN2 x = x.id := by simp [kN2, h]
    rw [e1, e2]
    clear e1 e2 h
    go_enter Try.func76, Try.ntmps76
    go_wp2
    go_ret
    exact ⟨rfl, rfl⟩
def cmpN (a b : News) : Int := cmp3 a.src (kN1 a) (kN2 a) b.src (kN1 b) (kN2 b)

theorem sortNS_step {W1 W W' : World} {p ba bb : Nat} {a b : News} (h : W.cell? ⟨p, 0, none⟩ = some (.func (.func 76) #[] #[]) ∧ W.cell? ⟨ba, 0, none⟩ = some (.int .i64 a.do_) ∧ W.cell? ⟨ba, 1, none⟩ = some (.int .i64 a.src) ∧ W.cell? ⟨ba, 2, none⟩ = some (.int .i64 a.id) ∧ W.cell? ⟨ba, 3, none⟩ = some (.int .i64 a.ver) ∧ W.cell? ⟨ba, 4, none⟩ = some (.int .i64 a.body.at_) ∧ W.cell? ⟨ba, 5, none⟩ = some (.int .i64 a.body.key) ∧ W.cell? ⟨ba, 6, none⟩ = some (.int .i64 a.body.val) ∧ W.cell? ⟨bb, 0, none⟩ = some (.int .i64 b.do_) ∧ W.cell? ⟨bb, 1, none⟩ = some (.int .i64 b.src) ∧ W.cell? ⟨bb, 2, none⟩ = some (.int .i64 b.id) ∧ W.cell? ⟨bb, 3, none⟩ = some (.int .i64 b.ver) ∧ W.cell? ⟨bb, 4, none⟩ = some (.int .i64 b.body.at_) ∧ W.cell? ⟨bb, 5, none⟩ = some (.int .i64 b.body.key) ∧ W.cell? ⟨bb, 6, none⟩ = some (.int .i64 b.body.val) ∧ Below W1.heap.size W1 W) (hb : Below W.heap.size W W') : W'.cell? ⟨p, 0, none⟩ = some (.func (.func 76) #[] #[]) ∧ W'.cell? ⟨ba, 0, none⟩ = some (.int .i64 a.do_) ∧ W'.cell? ⟨ba, 1, none⟩ = some (.int .i64 a.src) ∧ W'.cell? ⟨ba, 2, none⟩ = some (.int .i64 a.id) ∧ W'.cell? ⟨ba, 3, none⟩ = some (.int .i64 a.ver) ∧ W'.cell? ⟨ba, 4, none⟩ = some (.int .i64 a.body.at_) ∧ W'.cell? ⟨ba, 5, none⟩ = some (.int .i64 a.body.key) ∧ W'.cell? ⟨ba, 6, none⟩ = some (.int .i64 a.body.val) ∧ W'.cell? ⟨bb, 0, none⟩ = some (.int .i64 b.do_) ∧ W'.cell? ⟨bb, 1, none⟩ = some (.int .i64 b.src) ∧ W'.cell? ⟨bb, 2, none⟩ = some (.int .i64 b.id) ∧ W'.cell? ⟨bb, 3, none⟩ = some (.int .i64 b.ver) ∧ W'.cell? ⟨bb, 4, none⟩ = some (.int .i64 b.body.at_) ∧ W'.cell? ⟨bb, 5, none⟩ = some (.int .i64 b.body.key) ∧ W'.cell? ⟨bb, 6, none⟩ = some (.int .i64 b.body.val) ∧ Below W1.heap.size W1 W' := by
  obtain ⟨h0, h1, h2, h3, h4, h5, h6, h7, h8, h9, h10, h11, h12, h13, h14, h15⟩ := h
  exact ⟨cell_later' hb h0, cell_later' hb h1, cell_later' hb h2, cell_later' hb h3, cell_later' hb h4, cell_later' hb h5, cell_later' hb h6, cell_later' hb h7, cell_later' hb h8, cell_later' hb h9, cell_later' hb h10, cell_later' hb h11, cell_later' hb h12, cell_later' hb h13, cell_later' hb h14, below_step h15 hb⟩

set_option maxRecDepth 100000 in
set_option maxHeartbeats 2000000 in
theorem hist_sortedN1 (a b : News) (p : Nat) (w : World) (hp : w.cell? ⟨p, 0, none⟩ = some (.func (.func 76) #[] #[])) :
    Calls Try.prog 92 #[.agg #[.int .i64 a.do_, .int .i64 a.src, .int .i64 a.id, .int .i64 a.ver, .int .i64 a.body.at_, .int .i64 a.body.key, .int .i64 a.body.val], .agg #[.int .i64 b.do_, .int .i64 b.src, .int .i64 b.id, .int .i64 b.ver, .int .i64 b.body.at_, .int .i64 b.body.key, .int .i64 b.body.val], .pointer (some ⟨p, 0, none⟩)] w fun e w' => e = .returned (.int .i64 (cmpN a b)) ∧ ∃ o1 o2 o3 o4 o5 o6, w' = ((((((w.alloc o1).alloc o2).alloc o3).alloc o4).alloc o5).alloc o6).drew := by
  have hpl : p < w.heap.size := World.block_lt_of_cell? w _ hp
  unfold cmpN
  generalize hc : cmp3 a.src (kN1 a) (kN2 a) b.src (kN1 b) (kN2 b) = c
  have Hc := Lib.hid hc
  clear hc
  go_enter Try.func92, Try.ntmps92
  go_upto_region 1 with (fail)
  have hS : ∀ W1, W1 = ((w.alloc (.cells #[.int .i64 a.do_, .int .i64 a.src, .int .i64 a.id, .int .i64 a.ver, .int .i64 a.body.at_, .int .i64 a.body.key, .int .i64 a.body.val] 38)).alloc (.cells #[.int .i64 b.do_, .int .i64 b.src, .int .i64 b.id, .int .i64 b.ver, .int .i64 b.body.at_, .int .i64 b.body.key, .int .i64 b.body.val] 38)) → W1.cell? ⟨p, 0, none⟩ = some (.func (.func 76) #[] #[]) ∧ W1.cell? ⟨w.heap.size, 0, none⟩ = some (.int .i64 a.do_) ∧ W1.cell? ⟨w.heap.size, 1, none⟩ = some (.int .i64 a.src) ∧ W1.cell? ⟨w.heap.size, 2, none⟩ = some (.int .i64 a.id) ∧ W1.cell? ⟨w.heap.size, 3, none⟩ = some (.int .i64 a.ver) ∧ W1.cell? ⟨w.heap.size, 4, none⟩ = some (.int .i64 a.body.at_) ∧ W1.cell? ⟨w.heap.size, 5, none⟩ = some (.int .i64 a.body.key) ∧ W1.cell? ⟨w.heap.size, 6, none⟩ = some (.int .i64 a.body.val) ∧ W1.cell? ⟨w.heap.size + 1, 0, none⟩ = some (.int .i64 b.do_) ∧ W1.cell? ⟨w.heap.size + 1, 1, none⟩ = some (.int .i64 b.src) ∧ W1.cell? ⟨w.heap.size + 1, 2, none⟩ = some (.int .i64 b.id) ∧ W1.cell? ⟨w.heap.size + 1, 3, none⟩ = some (.int .i64 b.ver) ∧ W1.cell? ⟨w.heap.size + 1, 4, none⟩ = some (.int .i64 b.body.at_) ∧ W1.cell? ⟨w.heap.size + 1, 5, none⟩ = some (.int .i64 b.body.key) ∧ W1.cell? ⟨w.heap.size + 1, 6, none⟩ = some (.int .i64 b.body.val) ∧ Below (((w.alloc (.cells #[.int .i64 a.do_, .int .i64 a.src, .int .i64 a.id, .int .i64 a.ver, .int .i64 a.body.at_, .int .i64 a.body.key, .int .i64 a.body.val] 38)).alloc (.cells #[.int .i64 b.do_, .int .i64 b.src, .int .i64 b.id, .int .i64 b.ver, .int .i64 b.body.at_, .int .i64 b.body.key, .int .i64 b.body.val] 38))).heap.size ((w.alloc (.cells #[.int .i64 a.do_, .int .i64 a.src, .int .i64 a.id, .int .i64 a.ver, .int .i64 a.body.at_, .int .i64 a.body.key, .int .i64 a.body.val] 38)).alloc (.cells #[.int .i64 b.do_, .int .i64 b.src, .int .i64 b.id, .int .i64 b.ver, .int .i64 b.body.at_, .int .i64 b.body.key, .int .i64 b.body.val] 38)) W1 := by
    intro W1 e
    subst e
    refine ⟨by go_simp, by go_simp, by go_simp, by go_simp, by go_simp, by go_simp, by go_simp, by go_simp, by go_simp, by go_simp, by go_simp, by go_simp, by go_simp, by go_simp, by go_simp, Below.refl _ _⟩
  have hSb := hS _ rfl
  clear hS hp
  go_region_held3 (fun W => W.cell? ⟨p, 0, none⟩ = some (.func (.func 76) #[] #[]) ∧ W.cell? ⟨w.heap.size, 0, none⟩ = some (.int .i64 a.do_) ∧ W.cell? ⟨w.heap.size, 1, none⟩ = some (.int .i64 a.src) ∧ W.cell? ⟨w.heap.size, 2, none⟩ = some (.int .i64 a.id) ∧ W.cell? ⟨w.heap.size, 3, none⟩ = some (.int .i64 a.ver) ∧ W.cell? ⟨w.heap.size, 4, none⟩ = some (.int .i64 a.body.at_) ∧ W.cell? ⟨w.heap.size, 5, none⟩ = some (.int .i64 a.body.key) ∧ W.cell? ⟨w.heap.size, 6, none⟩ = some (.int .i64 a.body.val) ∧ W.cell? ⟨w.heap.size + 1, 0, none⟩ = some (.int .i64 b.do_) ∧ W.cell? ⟨w.heap.size + 1, 1, none⟩ = some (.int .i64 b.src) ∧ W.cell? ⟨w.heap.size + 1, 2, none⟩ = some (.int .i64 b.id) ∧ W.cell? ⟨w.heap.size + 1, 3, none⟩ = some (.int .i64 b.ver) ∧ W.cell? ⟨w.heap.size + 1, 4, none⟩ = some (.int .i64 b.body.at_) ∧ W.cell? ⟨w.heap.size + 1, 5, none⟩ = some (.int .i64 b.body.key) ∧ W.cell? ⟨w.heap.size + 1, 6, none⟩ = some (.int .i64 b.body.val) ∧ Below (((w.alloc (.cells #[.int .i64 a.do_, .int .i64 a.src, .int .i64 a.id, .int .i64 a.ver, .int .i64 a.body.at_, .int .i64 a.body.key, .int .i64 a.body.val] 38)).alloc (.cells #[.int .i64 b.do_, .int .i64 b.src, .int .i64 b.id, .int .i64 b.ver, .int .i64 b.body.at_, .int .i64 b.body.key, .int .i64 b.body.val] 38))).heap.size ((w.alloc (.cells #[.int .i64 a.do_, .int .i64 a.src, .int .i64 a.id, .int .i64 a.ver, .int .i64 a.body.at_, .int .i64 a.body.key, .int .i64 a.body.val] 38)).alloc (.cells #[.int .i64 b.do_, .int .i64 b.src, .int .i64 b.id, .int .i64 b.ver, .int .i64 b.body.at_, .int .i64 b.body.key, .int .i64 b.body.val] 38)) W)
    (first | assumption | exact sortNS_step (by assumption) (below_alloc (Below.refl _ _) _) | exact sortNS_step hSb (by repeat (first | exact Below.refl _ _ | apply below_alloc | apply below_drew1)))
    (first | (go_at_call 76; (first | (with_reducible refine (hist_least1 a _).mono ?_) | (with_reducible refine (hist_least1 b _).mono ?_)); rintro e w' ⟨rfl, rfl⟩) | (go_at_call 67; refine (slices_compare3 _ _ a.src (kN1 a) (kN2 a) b.src (kN1 b) (kN2 b) _ (by go_simp) (by go_simp) (by go_simp) (by go_simp) (by go_simp) (by go_simp)).mono ?_; rintro e w' ⟨rfl, rfl⟩))
  go_wp2
  go_ret
  exact ⟨by rw [← Hc.out]; rfl, _, _, _, _, _, _, rfl⟩
end Go.Proofs.Ytdpkpibcjbllcaa
set_option linter.unusedVariables false
set_option linter.unusedSimpArgs false
/-! Two slices are compared. (Printed by gen_eqwalk.py.) -/
namespace Go.Proofs.Ytdpkpibcjbllcaa
open Go.RowKit Go.Proofs.YtdpkpibcjbllcaaW.PrintWords

set_option maxRecDepth 100000 in
set_option maxHeartbeats 1000000 in
theorem eq_events (l m : List Event) (A B : Option Addr) (c1 c2 : Nat) (w : World) (hl : Kd.C kEvent w A l.length l) (hm : Kd.C kEvent w B m.length m) :
    Calls Try.prog 73 #[.slice A l.length c1, .slice B m.length c2] w fun e w' => e = .returned (.bool (decide (l = m))) ∧ Below w.heap.size w w' := by
  have hll : l.length ≤ 9223372036854775807 := hl.2.1
  have hmm : m.length ≤ 9223372036854775807 := hm.2.1
  have Hl := Lib.hid hl
  have Hm := Lib.hid hm
  clear hl hm
  obtain ⟨r, hr⟩ : ∃ r, decide (l = m) = r := ⟨_, rfl⟩
  rw [hr]
  have HR := Lib.hid hr
  clear hr
  by_cases hlen : l.length = m.length
  · have Hlen := Lib.hid hlen
    have hlb : ((l.length : Int) != (m.length : Int)) = false := by simp [hlen]
    have hlb2 : ((l.length : Int) == (m.length : Int)) = true := by simp [hlen]
    have hlm : l.length ≤ m.length := by omega
    have hml : m.length ≤ l.length := by omega
    clear hlen
    go_enter Try.func73, Try.ntmps73
    go_wp2
    go_loopw [13] (fun i wr => ∃ k : Nat, k ≤ l.length ∧ i = .int .i64 k ∧ Below w.heap.size w wr ∧ Hid (l.take k = m.take k)) (fun i _ => l.length - (intOf i).toNat)
    case atStart => exact ⟨0, Nat.zero_le _, rfl, Below.refl _ _, Lib.hid rfl⟩
    case round =>
      obtain ⟨k, hk, rfl, hB, He⟩ := hrel
      by_cases hlt : k < l.length
      · obtain ⟨x, ad, _, htk, hget, rfl, c0, c1, c2, c3, c4⟩ := event_at (Kd.C_below Hl.out hB) k hlt
        obtain ⟨y, ad2, _, htk2, hget2, rfl, d0, d1, d2, d3, d4⟩ := event_at (Kd.C_below Hm.out hB) k (by omega)
        have hkm : k < m.length := by omega
        have Htk := Lib.hid htk
        have Htk2 := Lib.hid htk2
        have Hg := Lib.hid hget
        have Hg2 := Lib.hid hget2
        clear htk htk2 hget hget2
        cases he : eventEq ⟨x.src, x.id, ⟨x.body.at_, x.body.key, x.body.val⟩⟩ ⟨y.src, y.id, ⟨y.body.at_, y.body.key, y.body.val⟩⟩
        · have hxy : Hid (x ≠ y) := Lib.hid (of_decide_eq_false (p := x = y) he)
          go_wp2
          go_quiet (fail)
          go_wp2
          go_ret
          refine ⟨?_, pw_below_drewN hB _⟩
          rw [← HR.out]
          have : ¬ l = m := by
            intro e
            have h1 := Hg.out
            rw [e, Hg2.out] at h1
            exact hxy.out (Option.some.inj h1).symm
          simp [this]
        · have hxy : Hid (x = y) := Lib.hid (of_decide_eq_true (p := x = y) he)
          go_wp2
          go_quiet (fail)
          go_wp2
          exact ⟨⟨k + 1, by omega, by go_num, pw_below_drewN hB _, Lib.hid (by rw [Htk.out, Htk2.out, He.out, hxy.out])⟩, by simp [intOf]; omega⟩
      · have hkl : k = l.length := by omega
        have hlm' : l = m := by
          have h := He.out
          rw [hkl, List.take_length, Hlen.out, List.take_length] at h
          exact h
        have Hlm := Lib.hid hlm'
        clear hkl hlm'
        go_wp2
        go_ret
        refine ⟨?_, hB⟩
        rw [← HR.out]
        simp [Hlm.out]
  · have hlb : ((l.length : Int) != (m.length : Int)) = true := by simp; omega
    have hlb2 : ((l.length : Int) == (m.length : Int)) = false := by simp; omega
    have Hlen := Lib.hid hlen
    clear hlen
    go_enter Try.func73, Try.ntmps73
    go_wp2
    go_ret
    refine ⟨?_, Below.refl _ _⟩
    rw [← HR.out]
    have : ¬ l = m := fun e => Hlen.out (by rw [e])
    simp [this]

set_option maxRecDepth 100000 in
set_option maxHeartbeats 1000000 in
theorem same_events (l m : List Event) (A B : Option Addr) (c1 c2 : Nat) (w : World) (hl : Kd.C kEvent w A l.length l) (hm : Kd.C kEvent w B m.length m) :
    Calls Try.prog 16 #[.slice A l.length c1, .slice B m.length c2] w fun e w' => e = .returned (.bool (decide (l = m))) ∧ Below w.heap.size w w' := by
  have hll : l.length ≤ 9223372036854775807 := hl.2.1
  have hmm : m.length ≤ 9223372036854775807 := hm.2.1
  have Hl := Lib.hid hl
  have Hm := Lib.hid hm
  clear hl hm
  obtain ⟨r, hr⟩ : ∃ r, decide (l = m) = r := ⟨_, rfl⟩
  rw [hr]
  have HR := Lib.hid hr
  clear hr
  by_cases hlen : l.length = m.length
  · have Hlen := Lib.hid hlen
    have hlb : ((l.length : Int) != (m.length : Int)) = false := by simp [hlen]
    have hlb2 : ((l.length : Int) == (m.length : Int)) = true := by simp [hlen]
    have hlm : l.length ≤ m.length := by omega
    have hml : m.length ≤ l.length := by omega
    clear hlen
    go_enter Try.func16, Try.ntmps16
    go_wp2
    go_loopw [5] (fun i wr => ∃ k : Nat, k ≤ l.length ∧ i = .int .i64 k ∧ Below w.heap.size w wr ∧ Hid (l.take k = m.take k)) (fun i _ => l.length - (intOf i).toNat)
    case atStart => exact ⟨0, Nat.zero_le _, rfl, Below.refl _ _, Lib.hid rfl⟩
    case round =>
      obtain ⟨k, hk, rfl, hB, He⟩ := hrel
      by_cases hlt : k < l.length
      · obtain ⟨x, ad, _, htk, hget, rfl, c0, c1, c2, c3, c4⟩ := event_at (Kd.C_below Hl.out hB) k hlt
        obtain ⟨y, ad2, _, htk2, hget2, rfl, d0, d1, d2, d3, d4⟩ := event_at (Kd.C_below Hm.out hB) k (by omega)
        have hkm : k < m.length := by omega
        have Htk := Lib.hid htk
        have Htk2 := Lib.hid htk2
        have Hg := Lib.hid hget
        have Hg2 := Lib.hid hget2
        clear htk htk2 hget hget2
        cases he : eventEq ⟨x.src, x.id, ⟨x.body.at_, x.body.key, x.body.val⟩⟩ ⟨y.src, y.id, ⟨y.body.at_, y.body.key, y.body.val⟩⟩
        · have hxy : Hid (x ≠ y) := Lib.hid (of_decide_eq_false (p := x = y) he)
          go_wp2
          go_quiet (fail)
          go_wp2
          go_ret
          refine ⟨?_, pw_below_drewN hB _⟩
          rw [← HR.out]
          have : ¬ l = m := by
            intro e
            have h1 := Hg.out
            rw [e, Hg2.out] at h1
            exact hxy.out (Option.some.inj h1).symm
          simp [this]
        · have hxy : Hid (x = y) := Lib.hid (of_decide_eq_true (p := x = y) he)
          go_wp2
          go_quiet (fail)
          go_wp2
          exact ⟨⟨k + 1, by omega, by go_num, pw_below_drewN hB _, Lib.hid (by rw [Htk.out, Htk2.out, He.out, hxy.out])⟩, by simp [intOf]; omega⟩
      · have hkl : k = l.length := by omega
        have hlm' : l = m := by
          have h := He.out
          rw [hkl, List.take_length, Hlen.out, List.take_length] at h
          exact h
        have Hlm := Lib.hid hlm'
        clear hkl hlm'
        go_wp2
        go_ret
        refine ⟨?_, hB⟩
        rw [← HR.out]
        simp [Hlm.out]
  · have hlb : ((l.length : Int) != (m.length : Int)) = true := by simp; omega
    have hlb2 : ((l.length : Int) == (m.length : Int)) = false := by simp; omega
    have Hlen := Lib.hid hlen
    clear hlen
    go_enter Try.func16, Try.ntmps16
    go_wp2
    go_ret
    refine ⟨?_, Below.refl _ _⟩
    rw [← HR.out]
    have : ¬ l = m := fun e => Hlen.out (by rw [e])
    simp [this]

set_option maxRecDepth 100000 in
set_option maxHeartbeats 1000000 in
theorem eq_news (l m : List News) (A B : Option Addr) (c1 c2 : Nat) (w : World) (hl : Kd.C kNews w A l.length l) (hm : Kd.C kNews w B m.length m) :
    Calls Try.prog 62 #[.slice A l.length c1, .slice B m.length c2] w fun e w' => e = .returned (.bool (decide (l = m))) ∧ Below w.heap.size w w' := by
  have hll : l.length ≤ 9223372036854775807 := hl.2.1
  have hmm : m.length ≤ 9223372036854775807 := hm.2.1
  have Hl := Lib.hid hl
  have Hm := Lib.hid hm
  clear hl hm
  obtain ⟨r, hr⟩ : ∃ r, decide (l = m) = r := ⟨_, rfl⟩
  rw [hr]
  have HR := Lib.hid hr
  clear hr
  by_cases hlen : l.length = m.length
  · have Hlen := Lib.hid hlen
    have hlb : ((l.length : Int) != (m.length : Int)) = false := by simp [hlen]
    have hlb2 : ((l.length : Int) == (m.length : Int)) = true := by simp [hlen]
    have hlm : l.length ≤ m.length := by omega
    have hml : m.length ≤ l.length := by omega
    clear hlen
    go_enter Try.func62, Try.ntmps62
    go_wp2
    go_loopw [13] (fun i wr => ∃ k : Nat, k ≤ l.length ∧ i = .int .i64 k ∧ Below w.heap.size w wr ∧ Hid (l.take k = m.take k)) (fun i _ => l.length - (intOf i).toNat)
    case atStart => exact ⟨0, Nat.zero_le _, rfl, Below.refl _ _, Lib.hid rfl⟩
    case round =>
      obtain ⟨k, hk, rfl, hB, He⟩ := hrel
      by_cases hlt : k < l.length
      · obtain ⟨x, ad, _, htk, hget, rfl, c0, c1, c2, c3, c4, c5, c6⟩ := news_at (Kd.C_below Hl.out hB) k hlt
        obtain ⟨y, ad2, _, htk2, hget2, rfl, d0, d1, d2, d3, d4, d5, d6⟩ := news_at (Kd.C_below Hm.out hB) k (by omega)
        have hkm : k < m.length := by omega
        have Htk := Lib.hid htk
        have Htk2 := Lib.hid htk2
        have Hg := Lib.hid hget
        have Hg2 := Lib.hid hget2
        clear htk htk2 hget hget2
        cases he : newsEq ⟨x.do_, x.src, x.id, x.ver, ⟨x.body.at_, x.body.key, x.body.val⟩⟩ ⟨y.do_, y.src, y.id, y.ver, ⟨y.body.at_, y.body.key, y.body.val⟩⟩
        · have hxy : Hid (x ≠ y) := Lib.hid (of_decide_eq_false (p := x = y) he)
          go_wp2
          go_quiet (fail)
          go_wp2
          go_ret
          refine ⟨?_, pw_below_drewN hB _⟩
          rw [← HR.out]
          have : ¬ l = m := by
            intro e
            have h1 := Hg.out
            rw [e, Hg2.out] at h1
            exact hxy.out (Option.some.inj h1).symm
          simp [this]
        · have hxy : Hid (x = y) := Lib.hid (of_decide_eq_true (p := x = y) he)
          go_wp2
          go_quiet (fail)
          go_wp2
          exact ⟨⟨k + 1, by omega, by go_num, pw_below_drewN hB _, Lib.hid (by rw [Htk.out, Htk2.out, He.out, hxy.out])⟩, by simp [intOf]; omega⟩
      · have hkl : k = l.length := by omega
        have hlm' : l = m := by
          have h := He.out
          rw [hkl, List.take_length, Hlen.out, List.take_length] at h
          exact h
        have Hlm := Lib.hid hlm'
        clear hkl hlm'
        go_wp2
        go_ret
        refine ⟨?_, hB⟩
        rw [← HR.out]
        simp [Hlm.out]
  · have hlb : ((l.length : Int) != (m.length : Int)) = true := by simp; omega
    have hlb2 : ((l.length : Int) == (m.length : Int)) = false := by simp; omega
    have Hlen := Lib.hid hlen
    clear hlen
    go_enter Try.func62, Try.ntmps62
    go_wp2
    go_ret
    refine ⟨?_, Below.refl _ _⟩
    rw [← HR.out]
    have : ¬ l = m := fun e => Hlen.out (by rw [e])
    simp [this]

set_option maxRecDepth 100000 in
set_option maxHeartbeats 1000000 in
theorem same_news (l m : List News) (A B : Option Addr) (c1 c2 : Nat) (w : World) (hl : Kd.C kNews w A l.length l) (hm : Kd.C kNews w B m.length m) :
    Calls Try.prog 23 #[.slice A l.length c1, .slice B m.length c2] w fun e w' => e = .returned (.bool (decide (l = m))) ∧ Below w.heap.size w w' := by
  have hll : l.length ≤ 9223372036854775807 := hl.2.1
  have hmm : m.length ≤ 9223372036854775807 := hm.2.1
  have Hl := Lib.hid hl
  have Hm := Lib.hid hm
  clear hl hm
  obtain ⟨r, hr⟩ : ∃ r, decide (l = m) = r := ⟨_, rfl⟩
  rw [hr]
  have HR := Lib.hid hr
  clear hr
  by_cases hlen : l.length = m.length
  · have Hlen := Lib.hid hlen
    have hlb : ((l.length : Int) != (m.length : Int)) = false := by simp [hlen]
    have hlb2 : ((l.length : Int) == (m.length : Int)) = true := by simp [hlen]
    have hlm : l.length ≤ m.length := by omega
    have hml : m.length ≤ l.length := by omega
    clear hlen
    go_enter Try.func23, Try.ntmps23
    go_wp2
    go_loopw [5] (fun i wr => ∃ k : Nat, k ≤ l.length ∧ i = .int .i64 k ∧ Below w.heap.size w wr ∧ Hid (l.take k = m.take k)) (fun i _ => l.length - (intOf i).toNat)
    case atStart => exact ⟨0, Nat.zero_le _, rfl, Below.refl _ _, Lib.hid rfl⟩
    case round =>
      obtain ⟨k, hk, rfl, hB, He⟩ := hrel
      by_cases hlt : k < l.length
      · obtain ⟨x, ad, _, htk, hget, rfl, c0, c1, c2, c3, c4, c5, c6⟩ := news_at (Kd.C_below Hl.out hB) k hlt
        obtain ⟨y, ad2, _, htk2, hget2, rfl, d0, d1, d2, d3, d4, d5, d6⟩ := news_at (Kd.C_below Hm.out hB) k (by omega)
        have hkm : k < m.length := by omega
        have Htk := Lib.hid htk
        have Htk2 := Lib.hid htk2
        have Hg := Lib.hid hget
        have Hg2 := Lib.hid hget2
        clear htk htk2 hget hget2
        cases he : newsEq ⟨x.do_, x.src, x.id, x.ver, ⟨x.body.at_, x.body.key, x.body.val⟩⟩ ⟨y.do_, y.src, y.id, y.ver, ⟨y.body.at_, y.body.key, y.body.val⟩⟩
        · have hxy : Hid (x ≠ y) := Lib.hid (of_decide_eq_false (p := x = y) he)
          go_wp2
          go_quiet (fail)
          go_wp2
          go_ret
          refine ⟨?_, pw_below_drewN hB _⟩
          rw [← HR.out]
          have : ¬ l = m := by
            intro e
            have h1 := Hg.out
            rw [e, Hg2.out] at h1
            exact hxy.out (Option.some.inj h1).symm
          simp [this]
        · have hxy : Hid (x = y) := Lib.hid (of_decide_eq_true (p := x = y) he)
          go_wp2
          go_quiet (fail)
          go_wp2
          exact ⟨⟨k + 1, by omega, by go_num, pw_below_drewN hB _, Lib.hid (by rw [Htk.out, Htk2.out, He.out, hxy.out])⟩, by simp [intOf]; omega⟩
      · have hkl : k = l.length := by omega
        have hlm' : l = m := by
          have h := He.out
          rw [hkl, List.take_length, Hlen.out, List.take_length] at h
          exact h
        have Hlm := Lib.hid hlm'
        clear hkl hlm'
        go_wp2
        go_ret
        refine ⟨?_, hB⟩
        rw [← HR.out]
        simp [Hlm.out]
  · have hlb : ((l.length : Int) != (m.length : Int)) = true := by simp; omega
    have hlb2 : ((l.length : Int) == (m.length : Int)) = false := by simp; omega
    have Hlen := Lib.hid hlen
    clear hlen
    go_enter Try.func23, Try.ntmps23
    go_wp2
    go_ret
    refine ⟨?_, Below.refl _ _⟩
    rw [← HR.out]
    have : ¬ l = m := fun e => Hlen.out (by rw [e])
    simp [this]

set_option maxRecDepth 100000 in
set_option maxHeartbeats 1000000 in
theorem same_ints (l m : List Int) (A B : Option Addr) (c1 c2 : Nat) (w : World) (hl : Kd.C (Kd.int .i64) w A l.length l) (hm : Kd.C (Kd.int .i64) w B m.length m) :
    Calls Try.prog 17 #[.slice A l.length c1, .slice B m.length c2] w fun e w' => e = .returned (.bool (decide (l = m))) ∧ Below w.heap.size w w' := by
  have hll : l.length ≤ 9223372036854775807 := hl.2.1
  have hmm : m.length ≤ 9223372036854775807 := hm.2.1
  have Hl := Lib.hid hl
  have Hm := Lib.hid hm
  clear hl hm
  obtain ⟨r, hr⟩ : ∃ r, decide (l = m) = r := ⟨_, rfl⟩
  rw [hr]
  have HR := Lib.hid hr
  clear hr
  by_cases hlen : l.length = m.length
  · have Hlen := Lib.hid hlen
    have hlb : ((l.length : Int) != (m.length : Int)) = false := by simp [hlen]
    have hlb2 : ((l.length : Int) == (m.length : Int)) = true := by simp [hlen]
    have hlm : l.length ≤ m.length := by omega
    have hml : m.length ≤ l.length := by omega
    clear hlen
    go_enter Try.func17, Try.ntmps17
    go_wp2
    go_loopw [5] (fun i wr => ∃ k : Nat, k ≤ l.length ∧ i = .int .i64 k ∧ Below w.heap.size w wr ∧ Hid (l.take k = m.take k)) (fun i _ => l.length - (intOf i).toNat)
    case atStart => exact ⟨0, Nat.zero_le _, rfl, Below.refl _ _, Lib.hid rfl⟩
    case round =>
      obtain ⟨k, hk, rfl, hB, He⟩ := hrel
      by_cases hlt : k < l.length
      · obtain ⟨x, ad, _, htk, hget, rfl, c0⟩ := int_at (Kd.C_below Hl.out hB) k hlt
        obtain ⟨y, ad2, _, htk2, hget2, rfl, d0⟩ := int_at (Kd.C_below Hm.out hB) k (by omega)
        have hkm : k < m.length := by omega
        have Htk := Lib.hid htk
        have Htk2 := Lib.hid htk2
        have Hg := Lib.hid hget
        have Hg2 := Lib.hid hget2
        clear htk htk2 hget hget2
        cases he : (x == y)
        · have he' : (x != y) = true := by simp [bne, he]
          have hxy : Hid (x ≠ y) := Lib.hid (by simpa using he)
          go_wp2
          go_quiet (fail)
          go_wp2
          go_ret
          refine ⟨?_, pw_below_drewN hB _⟩
          rw [← HR.out]
          have : ¬ l = m := by
            intro e
            have h1 := Hg.out
            rw [e, Hg2.out] at h1
            exact hxy.out (Option.some.inj h1).symm
          simp [this]
        · have he' : (x != y) = false := by simp [bne, he]
          have hxy : Hid (x = y) := Lib.hid (by simpa using he)
          go_wp2
          go_quiet (fail)
          go_wp2
          exact ⟨⟨k + 1, by omega, by go_num, pw_below_drewN hB _, Lib.hid (by rw [Htk.out, Htk2.out, He.out, hxy.out])⟩, by simp [intOf]; omega⟩
      · have hkl : k = l.length := by omega
        have hlm' : l = m := by
          have h := He.out
          rw [hkl, List.take_length, Hlen.out, List.take_length] at h
          exact h
        have Hlm := Lib.hid hlm'
        clear hkl hlm'
        go_wp2
        go_ret
        refine ⟨?_, hB⟩
        rw [← HR.out]
        simp [Hlm.out]
  · have hlb : ((l.length : Int) != (m.length : Int)) = true := by simp; omega
    have hlb2 : ((l.length : Int) == (m.length : Int)) = false := by simp; omega
    have Hlen := Lib.hid hlen
    clear hlen
    go_enter Try.func17, Try.ntmps17
    go_wp2
    go_ret
    refine ⟨?_, Below.refl _ _⟩
    rw [← HR.out]
    have : ¬ l = m := fun e => Hlen.out (by rw [e])
    simp [this]

end Go.Proofs.Ytdpkpibcjbllcaa
set_option linter.unusedVariables false
set_option linter.unusedSimpArgs false
/-! What one more of the news changes. -/
namespace Go.Proofs.Ytdpkpibcjbllcaa
open Go.RowKit Go.Proofs.YtdpkpibcjbllcaaW.PrintWords

/-- What one more of the news changes. -/
def stepOf (L : List (Key × News)) (n : News) : List Event × List Event :=
  if n.do_ = 3 then ([], []) else if standsK L (keyOf n) = standsK (hearL L n) (keyOf n) then ([], []) else (standsK L (keyOf n), standsK (hearL L n) (keyOf n))
def StepPost (w : World) (g b : Nat) (L : List (Key × News)) (M : List Int) (n : News) (e : Ending) (w' : World) : Prop :=
  ∃ v1 v2, e = .returned (.tuple #[v1, v2]) ∧ Own kEvent 49 w' w.heap.size v1 (stepOf L n).1 ∧ Own kEvent 49 w' w.heap.size v2 (stepOf L n).2 ∧ HeardAt w' g b (hear (L, M) n).1 (hear (L, M) n).2 ∧ Chg g b w w'
theorem Chg.cell {g b : Nat} {w w1 : World} (h : Chg g b w w1) {k o : Nat} {v : Value} (hc : w.cell? ⟨k, o, none⟩ = some v) (hg : k ≠ g) (hb : k ≠ b) : w1.cell? ⟨k, o, none⟩ = some v := by
  have hk := World.block_lt_of_cell? w _ hc
  have e := h.block k hk hg hb
  simp only [World.cell?] at hc ⊢
  rw [e]; exact hc
theorem Chg.own {α : Type} {d : Kd α} {e base g b : Nat} {w w1 : World} {v : Value} {xs : List α} (h : Chg g b w w1) (ho : Own d e w base v xs) (hg : g < base) (hb : b < base) : Own d e w1 base v xs :=
  Kd.R_mono (Kd.R_step (Kd.R_bound ho) (fun k hk _ => h.block k hk.2.2.1 (by have := hk.2.1; omega) (by have := hk.2.1; omega))) (fun _ _ => trivial)
theorem own_later {α : Type} {d : Kd α} {e base : Nat} {w w1 : World} {v : Value} {xs : List α} (ho : Own d e w base v xs) (hb : Below w.heap.size w w1) : Own d e w1 base v xs := Kd.R_below ho hb
theorem own_lower {α : Type} {d : Kd α} {e base base' : Nat} {w : World} {v : Value} {xs : List α} (ho : Own d e w base v xs) (hb : base' ≤ base) : Own d e w base' v xs := Kd.R_lower ho hb

theorem eq_events_nil (w : World) : Calls Try.prog 73 #[.slice none 0 0, .slice none 0 0] w fun e w' => e = .returned (.bool true) ∧ Below w.heap.size w w' := by
  have h := eq_events [] [] none none 0 0 w (Kd.C_nil _ _) (Kd.C_nil _ _)
  simpa using h
set_option maxRecDepth 100000 in
set_option maxHeartbeats 2000000 in
theorem hist_step_mark (g b : Nat) (L : List (Key × News)) (M : List Int) (n : News) (w : World) (hs : HeardAt w g b L M) (h0 : 0 ≤ n.src) (h4 : n.src < 4) (hn : n.do_ = 3) :
    Calls Try.prog 51 #[.pointer (some ⟨g, 0, none⟩), .agg #[.int .i64 n.do_, .int .i64 n.src, .int .i64 n.id, .int .i64 n.ver, .int .i64 n.body.at_, .int .i64 n.body.key, .int .i64 n.body.val]] w (StepPost w g b L M n) := by
  have hgl : g < w.heap.size := World.block_lt_of_cell? w _ hs.cell
  have hbl : b < w.heap.size := (Array.getElem?_eq_some_iff.1 hs.map).1
  have hne : (n.do_ != 3) = false := by simp [hn]
  have hst : stepOf L n = ([], []) := by simp [stepOf, hn]
  have HST := Lib.hid hst
  have Hs := Lib.hid hs
  clear hs hst hn
  go_enter Try.func51, Try.ntmps51
  go_upto_region 3 with (fail)
  have hBa : Below w.heap.size w (w.alloc (.cells #[.int .i64 n.do_, .int .i64 n.src, .int .i64 n.id, .int .i64 n.ver, .int .i64 n.body.at_, .int .i64 n.body.key, .int .i64 n.body.val] 38)) := below_alloc (Below.refl _ _) _
  have hi0 : (w.alloc (.cells #[.int .i64 n.do_, .int .i64 n.src, .int .i64 n.id, .int .i64 n.ver, .int .i64 n.body.at_, .int .i64 n.body.key, .int .i64 n.body.val] 38)).cell? ⟨w.heap.size, 0, none⟩ = some (.int .i64 n.do_) := by go_simp
  have hi1 : (w.alloc (.cells #[.int .i64 n.do_, .int .i64 n.src, .int .i64 n.id, .int .i64 n.ver, .int .i64 n.body.at_, .int .i64 n.body.key, .int .i64 n.body.val] 38)).cell? ⟨w.heap.size, 1, none⟩ = some (.int .i64 n.src) := by go_simp
  have hi2 : (w.alloc (.cells #[.int .i64 n.do_, .int .i64 n.src, .int .i64 n.id, .int .i64 n.ver, .int .i64 n.body.at_, .int .i64 n.body.key, .int .i64 n.body.val] 38)).cell? ⟨w.heap.size, 2, none⟩ = some (.int .i64 n.id) := by go_simp
  have hi3 : (w.alloc (.cells #[.int .i64 n.do_, .int .i64 n.src, .int .i64 n.id, .int .i64 n.ver, .int .i64 n.body.at_, .int .i64 n.body.key, .int .i64 n.body.val] 38)).cell? ⟨w.heap.size, 3, none⟩ = some (.int .i64 n.ver) := by go_simp
  have hi4 : (w.alloc (.cells #[.int .i64 n.do_, .int .i64 n.src, .int .i64 n.id, .int .i64 n.ver, .int .i64 n.body.at_, .int .i64 n.body.key, .int .i64 n.body.val] 38)).cell? ⟨w.heap.size, 4, none⟩ = some (.int .i64 n.body.at_) := by go_simp
  have hi5 : (w.alloc (.cells #[.int .i64 n.do_, .int .i64 n.src, .int .i64 n.id, .int .i64 n.ver, .int .i64 n.body.at_, .int .i64 n.body.key, .int .i64 n.body.val] 38)).cell? ⟨w.heap.size, 5, none⟩ = some (.int .i64 n.body.key) := by go_simp
  have hi6 : (w.alloc (.cells #[.int .i64 n.do_, .int .i64 n.src, .int .i64 n.id, .int .i64 n.ver, .int .i64 n.body.at_, .int .i64 n.body.key, .int .i64 n.body.val] 38)).cell? ⟨w.heap.size, 6, none⟩ = some (.int .i64 n.body.val) := by go_simp
  generalize (w.alloc (.cells #[.int .i64 n.do_, .int .i64 n.src, .int .i64 n.id, .int .i64 n.ver, .int .i64 n.body.at_, .int .i64 n.body.key, .int .i64 n.body.val] 38)) = W1 at *
  generalize hbn : w.heap.size = bn at *
  go_upto_region 4 with (first | (go_at_call 64; (with_reducible refine (hist_hear g b L M n _ (Hs.out.later (hbn ▸ hBa)) h0 h4).mono ?_); rintro e w2 ⟨rfl, hH, hC⟩))
  replace hi0 := hC.cell hi0 (by omega) (by omega)
  clear hi1 hi2 hi3 hi4 hi5 hi6
  go_wp2_with (first | (go_at_call 73; (with_reducible refine (eq_events_nil _).mono ?_); rintro e w3 ⟨rfl, hb3⟩))
  go_ret2
  refine ⟨_, _, rfl, ?_, ?_, hH.later hb3, ?_⟩
  · rw [HST.out]; exact Kd.R_nil _ _ _ _ _
  · rw [HST.out]; exact Kd.R_nil _ _ _ _ _
  · subst hbn
    exact (Chg.of_below hBa).trans (hC.trans (Chg.of_below hb3))
set_option maxRecDepth 100000 in
set_option maxHeartbeats 2000000 in
theorem hist_step_event (g b : Nat) (L : List (Key × News)) (M : List Int) (n : News) (w : World) (hs : HeardAt w g b L M) (h0 : 0 ≤ n.src) (h4 : n.src < 4) (hn : n.do_ ≠ 3) :
    Calls Try.prog 51 #[.pointer (some ⟨g, 0, none⟩), .agg #[.int .i64 n.do_, .int .i64 n.src, .int .i64 n.id, .int .i64 n.ver, .int .i64 n.body.at_, .int .i64 n.body.key, .int .i64 n.body.val]] w (StepPost w g b L M n) := by
  have hgl : g < w.heap.size := World.block_lt_of_cell? w _ hs.cell
  have hbl : b < w.heap.size := (Array.getElem?_eq_some_iff.1 hs.map).1
  have hne : (n.do_ != 3) = true := by simpa using hn
  have hst : stepOf L n = if standsK L (keyOf n) = standsK (hearL L n) (keyOf n) then ([], []) else (standsK L (keyOf n), standsK (hearL L n) (keyOf n)) := by simp [stepOf, hn]
  have hhe : (hear (L, M) n).1 = hearL L n := by simp [hear, hn]
  have HST := Lib.hid hst
  have HHE := Lib.hid hhe
  have Hs := Lib.hid hs
  clear hs hst hn hhe
  go_enter Try.func51, Try.ntmps51
  go_upto_region 2 with (fail)
  have hBa : Below w.heap.size w (w.alloc (.cells #[.int .i64 n.do_, .int .i64 n.src, .int .i64 n.id, .int .i64 n.ver, .int .i64 n.body.at_, .int .i64 n.body.key, .int .i64 n.body.val] 38)) := below_alloc (Below.refl _ _) _
  have hi0 : (w.alloc (.cells #[.int .i64 n.do_, .int .i64 n.src, .int .i64 n.id, .int .i64 n.ver, .int .i64 n.body.at_, .int .i64 n.body.key, .int .i64 n.body.val] 38)).cell? ⟨w.heap.size, 0, none⟩ = some (.int .i64 n.do_) := by go_simp
  have hi1 : (w.alloc (.cells #[.int .i64 n.do_, .int .i64 n.src, .int .i64 n.id, .int .i64 n.ver, .int .i64 n.body.at_, .int .i64 n.body.key, .int .i64 n.body.val] 38)).cell? ⟨w.heap.size, 1, none⟩ = some (.int .i64 n.src) := by go_simp
  have hi2 : (w.alloc (.cells #[.int .i64 n.do_, .int .i64 n.src, .int .i64 n.id, .int .i64 n.ver, .int .i64 n.body.at_, .int .i64 n.body.key, .int .i64 n.body.val] 38)).cell? ⟨w.heap.size, 2, none⟩ = some (.int .i64 n.id) := by go_simp
  have hi3 : (w.alloc (.cells #[.int .i64 n.do_, .int .i64 n.src, .int .i64 n.id, .int .i64 n.ver, .int .i64 n.body.at_, .int .i64 n.body.key, .int .i64 n.body.val] 38)).cell? ⟨w.heap.size, 3, none⟩ = some (.int .i64 n.ver) := by go_simp
  have hi4 : (w.alloc (.cells #[.int .i64 n.do_, .int .i64 n.src, .int .i64 n.id, .int .i64 n.ver, .int .i64 n.body.at_, .int .i64 n.body.key, .int .i64 n.body.val] 38)).cell? ⟨w.heap.size, 4, none⟩ = some (.int .i64 n.body.at_) := by go_simp
  have hi5 : (w.alloc (.cells #[.int .i64 n.do_, .int .i64 n.src, .int .i64 n.id, .int .i64 n.ver, .int .i64 n.body.at_, .int .i64 n.body.key, .int .i64 n.body.val] 38)).cell? ⟨w.heap.size, 5, none⟩ = some (.int .i64 n.body.key) := by go_simp
  have hi6 : (w.alloc (.cells #[.int .i64 n.do_, .int .i64 n.src, .int .i64 n.id, .int .i64 n.ver, .int .i64 n.body.at_, .int .i64 n.body.key, .int .i64 n.body.val] 38)).cell? ⟨w.heap.size, 6, none⟩ = some (.int .i64 n.body.val) := by go_simp
  generalize (w.alloc (.cells #[.int .i64 n.do_, .int .i64 n.src, .int .i64 n.id, .int .i64 n.ver, .int .i64 n.body.at_, .int .i64 n.body.key, .int .i64 n.body.val] 38)) = W1 at *
  generalize hbn : w.heap.size = bn at *
  have hs1 : HeardAt W1 g b L M := Hs.out.later (hbn ▸ hBa)
  go_upto_region 3 with (first | (go_at_call 72; (with_reducible refine (hist_of n _).mono ?_); rintro e w2 ⟨rfl, hb2⟩; have hs2 := hs1.later hb2) | (go_at_call 42; (with_reducible refine (hist_stands g b L M ⟨n.src, n.id⟩ _ hs2).mono ?_); rintro e w3 ⟨v3, rfl, hO3, _, hb3⟩; replace hO3 : Own kEvent 49 _ _ _ (standsK L (keyOf n)) := hO3))
  have hs3 := hs2.later hb3
  have hB3 : Below W1.heap.size W1 w3 := below_step hb2 hb3
  replace hi0 := cell_later' hB3 hi0
  replace hi1 := cell_later' hB3 hi1
  replace hi2 := cell_later' hB3 hi2
  replace hi3 := cell_later' hB3 hi3
  replace hi4 := cell_later' hB3 hi4
  replace hi5 := cell_later' hB3 hi5
  replace hi6 := cell_later' hB3 hi6
  go_upto_region 4 with (first | (go_at_call 64; (with_reducible refine (hist_hear g b L M n _ hs3 h0 h4).mono ?_); rintro e w4 ⟨rfl, hH, hC⟩))
  replace hi0 := hC.cell hi0 (by omega) (by omega)
  replace hi1 := hC.cell hi1 (by omega) (by omega)
  replace hi2 := hC.cell hi2 (by omega) (by omega)
  replace hi3 := hC.cell hi3 (by omega) (by omega)
  replace hi4 := hC.cell hi4 (by omega) (by omega)
  replace hi5 := hC.cell hi5 (by omega) (by omega)
  replace hi6 := hC.cell hi6 (by omega) (by omega)
  have hz2 : bn ≤ w2.heap.size := by have h1 := hBa.size; have h2 := hb2.size; omega
  have hO4 := own_lower (hC.own hO3 (by omega) (by omega)) hz2
  have hz4 : bn ≤ w4.heap.size := by have h1 := hb3.size; have h2 := hC.size; omega
  go_upto_region 6 with (first | (go_at_call 72; (with_reducible refine (hist_of n _).mono ?_); rintro e w5 ⟨rfl, hb5⟩; have hs5 := hH.later hb5) | (go_at_call 42; (with_reducible refine (hist_stands g b _ _ ⟨n.src, n.id⟩ _ hs5).mono ?_); rintro e w6 ⟨v6, rfl, hO6, _, hb6⟩; replace hO6 : Own kEvent 49 _ _ _ (standsK _ (keyOf n)) := hO6))
  have hB6 : Below w4.heap.size w4 w6 := below_step hb5 hb6
  have hs6 := hs5.later hb6
  replace hO4 := own_later hO4 hB6
  replace hO6 := own_lower hO6 (by have h2 := hb5.size; omega : bn ≤ w5.heap.size)
  have hC6 : Chg g b w w6 := by
    subst hbn
    exact (Chg.of_below hBa).trans ((Chg.of_below hB3).trans (hC.trans (Chg.of_below hB6)))
  clear hi0 hi1 hi2 hi3 hi4 hi5 hi6 hb2 hb3 hb5 hb6 hs1 hs2 hs3 hs5 hO3 hBa
  rw [HHE.out] at hO6
  obtain ⟨A4, c4, rfl, _, hr4⟩ := own_reads' hO4
  obtain ⟨A6, c6, rfl, _, hr6⟩ := own_reads' hO6
  have HO4 := Lib.hid hO4
  have HO6 := Lib.hid hO6
  clear hO4 hO6
  by_cases he : standsK L (keyOf n) = standsK (hearL L n) (keyOf n)
  · have hd : decide (standsK L (keyOf n) = standsK (hearL L n) (keyOf n)) = true := by simp [he]
    have He := Lib.hid he
    clear he
    go_wp2_with (first | (go_at_call 73; (with_reducible refine (eq_events _ _ _ _ _ _ _ hr4 hr6).mono ?_); rintro e w7 ⟨rfl, hb7⟩))
    go_ret2
    refine ⟨_, _, rfl, ?_, ?_, hs6.later hb7, hC6.trans (Chg.of_below hb7)⟩
    · rw [HST.out, if_pos He.out]; exact Kd.R_nil _ _ _ _ _
    · rw [HST.out, if_pos He.out]; exact Kd.R_nil _ _ _ _ _
  · have hd : decide (standsK L (keyOf n) = standsK (hearL L n) (keyOf n)) = false := by simp [he]
    have He := Lib.hid he
    clear he
    go_wp2_with (first | (go_at_call 73; (with_reducible refine (eq_events _ _ _ _ _ _ _ hr4 hr6).mono ?_); rintro e w7 ⟨rfl, hb7⟩))
    go_ret2
    refine ⟨_, _, rfl, ?_, ?_, hs6.later hb7, hC6.trans (Chg.of_below hb7)⟩
    · rw [HST.out, if_neg He.out]; subst hbn; exact own_later HO4.out hb7
    · rw [HST.out, if_neg He.out]; subst hbn; exact own_later HO6.out hb7
theorem hist_step (g b : Nat) (L : List (Key × News)) (M : List Int) (n : News) (w : World) (hs : HeardAt w g b L M) (h0 : 0 ≤ n.src) (h4 : n.src < 4) :
    Calls Try.prog 51 #[.pointer (some ⟨g, 0, none⟩), .agg #[.int .i64 n.do_, .int .i64 n.src, .int .i64 n.id, .int .i64 n.ver, .int .i64 n.body.at_, .int .i64 n.body.key, .int .i64 n.body.val]] w (StepPost w g b L M n) := by
  by_cases h : n.do_ = 3
  · exact hist_step_mark g b L M n w hs h0 h4 h
  · exact hist_step_event g b L M n w hs h0 h4 h
end Go.Proofs.Ytdpkpibcjbllcaa
set_option linter.unusedVariables false
set_option linter.unusedSimpArgs false
/-! The library's sort at a row of the call's own. -/
namespace Go.Proofs.Ytdpkpibcjbllcaa
open Go.RowKit Go.Proofs.YtdpkpibcjbllcaaW.PrintWords
open Go.Sort (HoldsK flatK putRowK get_flatK size_flatK)

section
variable {α : Type}
theorem own_split {d : Kd α} {e base : Nat} {w : World} {v : Value} {xs : List α} (h : Own d e w base v xs) : (v = .slice none 0 0 ∧ xs = []) ∨
    ∃ g cap cur inner, v = .slice (some ⟨g, 0, none⟩) xs.length cap ∧ base ≤ g ∧ w.heap[g]? = some (.cells cur e (0, 0)) ∧ xs.length ≤ cap ∧ cap ≤ maxLen ∧ cur.size = cap * d.sz ∧ cur.toList.take (xs.length * d.sz) = inner ∧ Reps (d.M w base (fun k => True ∧ some k ≠ v.ownBlock)) d.sz xs inner := by
  obtain ⟨_, inner, ho, hr⟩ := h
  obtain ⟨_, ⟨hv, h0⟩ | ⟨g, cap, cur, hv, hg, hb, h1, h2, h3, h4⟩⟩ := ho
  · exact .inl ⟨hv, by simpa using h0⟩
  · exact .inr ⟨g, cap, cur, inner, hv, hg, hb, h1, h2, h3, h4, hr⟩
variable [Inhabited α]
theorem holdsK_own {d : Kd α} {enc : α → List Value} (hk : ∀ x, (enc x).length = d.sz) (hs : 0 < d.sz) {R : α → List Value → Prop} (hM' : ∀ x cs, R x cs → cs = enc x) {w : World} {g cap : Nat} {cur : Array Value} {e : Nat} {xs : List α} {inner : List Value}
    (hb : w.heap[g]? = some (.cells cur e (0, 0))) (h1 : xs.length ≤ cap) (h3 : cur.size = cap * d.sz) (h4 : cur.toList.take (xs.length * d.sz) = inner) (hr : Reps R d.sz xs inner) : HoldsK enc d.sz w g 0 xs.toArray := by
  intro t ht
  have ht' : t < xs.length * d.sz := by simpa using ht
  refine ⟨?_, by simp [World.frozen?, hb]⟩
  have hj : t / d.sz < xs.length := Nat.div_lt_of_lt_mul (by rw [Nat.mul_comm]; exact ht')
  have hm : t % d.sz < d.sz := Nat.mod_lt _ hs
  rw [get_flatK enc d.sz xs.toArray t (by simpa using ht')]
  have e1 : (inner.drop (t / d.sz * d.sz)).take d.sz = enc xs[t / d.sz] := hM' _ _ (hr.2 _ _ (List.getElem?_eq_getElem hj))
  have e2 : inner[t]? = (enc xs[t / d.sz])[t % d.sz]? := by
    rw [← e1, List.getElem?_take_of_lt hm, List.getElem?_drop]
    congr 1
    rw [Nat.mul_comm]
    exact (Nat.div_add_mod t d.sz).symm
  have e3 : cur[t]? = inner[t]? := by rw [← h4, List.getElem?_take_of_lt ht', Array.getElem?_toList]
  have e4 : (enc xs[t / d.sz])[t % d.sz]? = some ((enc xs[t / d.sz])[t % d.sz]!) := by
    have : t % d.sz < (enc xs[t / d.sz]).length := by rw [hk]; exact hm
    rw [List.getElem?_eq_getElem this, List.getElem!_eq_getElem?_getD, List.getElem?_eq_getElem this]
    rfl
  have e5 : xs.toArray[t / d.sz]! = xs[t / d.sz] := by simp [hj]
  rw [e5]
  simp only [World.cell?, hb, Nat.zero_add, Option.isSome_none, Bool.false_eq_true, if_false]
  rw [e3, e2, e4]
  rfl
theorem heap_sortK {enc : α → List Value} {k : Nat} {w : World} {g n : Nat} {os : Array Obj} {cur : Array Value} {e : TypeId} {fr : Nat × Nat} (d : Array α) (hb : w.heap[g]? = some (.cells cur e fr)) :
    (sortWorldK enc k w g 0 n d os).heap[g]? = some (.cells (Go.Sort.putCells id 0 (flatK enc k d) cur) e fr) := by
  have hg : g < w.heap.size := (Array.getElem?_eq_some_iff.1 hb).1
  unfold sortWorldK putRowK
  rw [Go.Sort.heap_grow_old _ _ (by simpa [Go.Sort.ahead] using hg)]
  simp [Go.Sort.putRow, Go.Sort.mapBlock, Go.Sort.ahead, Array.getElem?_modify, hb, Go.Sort.onCells]
theorem heap_sortK_ne {enc : α → List Value} {k : Nat} {w : World} {g n p : Nat} {os : Array Obj} (d : Array α) (hp : p < w.heap.size) (hne : p ≠ g) : (sortWorldK enc k w g 0 n d os).heap[p]? = w.heap[p]? := by
  unfold sortWorldK putRowK
  rw [Go.Sort.heap_grow_old _ _ (by simpa [Go.Sort.ahead] using hp)]
  simp [Go.Sort.putRow, Go.Sort.mapBlock, Go.Sort.ahead, Array.getElem?_modify, Ne.symm hne]
theorem below_sortK {enc : α → List Value} {k : Nat} {w : World} {g n base : Nat} {os : Array Obj} (d : Array α) (hb : base ≤ g) (hw : base ≤ w.heap.size) : Below base w (sortWorldK enc k w g 0 n d os) :=
  ⟨rfl, rfl, rfl, by rw [sortWorldK, Go.Sort.size_grow]; simp [putRowK, Go.Sort.ahead], fun i hi => heap_sortK_ne d (by omega) (by omega)⟩
theorem take_flatK (cur : Array Value) (F : Array Value) (h : F.size ≤ cur.size) : (Go.Sort.putCells id 0 F cur).toList.take F.size = F.toList := by
  apply List.ext_getElem?
  intro j
  by_cases hj : j < F.size
  · rw [List.getElem?_take_of_lt hj, Array.getElem?_toList]
    simp [Go.Sort.putCells, hj, show j < cur.size by omega]
  · rw [List.getElem?_take_eq_none (by omega), List.getElem?_eq_none (by simp; omega)]
theorem own_sortK {d : Kd α} {enc : α → List Value} (hk : ∀ x, (enc x).length = d.sz) (hs : 0 < d.sz) (hM : ∀ w base ok x, d.M w base ok x (enc x)) {w : World} {g cap base n : Nat} {cur : Array Value} {e : Nat} {len : Nat} {os : Array Obj} (ys : List α)
    (hl : ys.length = len) (hg : base ≤ g) (hb : w.heap[g]? = some (.cells cur e (0, 0))) (h1 : len ≤ cap) (h2 : cap ≤ maxLen) (h3 : cur.size = cap * d.sz) :
    Own d e (sortWorldK enc d.sz w g 0 n ys.toArray os) base (.slice (some ⟨g, 0, none⟩) len cap) ys := by
  subst hl
  have hF : (flatK enc d.sz ys.toArray).size = ys.length * d.sz := by simp
  refine ⟨fun _ _ => trivial, (flatK enc d.sz ys.toArray).toList, ?_, ?_⟩
  · refine ⟨by simp, .inr ⟨g, cap, _, rfl, hg, heap_sortK _ hb, h1, h2, by simp [Go.Sort.putCells, h3], ?_⟩⟩
    rw [← hF]
    exact take_flatK _ _ (by rw [hF, h3]; exact Nat.mul_le_mul_right _ h1)
  · refine ⟨by simp, fun j p hj => ?_⟩
    have hjl : j < ys.length := (List.getElem?_eq_some_iff.1 hj).1
    have hp : ys[j] = p := (List.getElem?_eq_some_iff.1 hj).2
    have e1 : ((flatK enc d.sz ys.toArray).toList.drop (j * d.sz)).take d.sz = enc p := by
      apply List.ext_getElem?
      intro r
      by_cases hr : r < d.sz
      · have hlt : j * d.sz + r < ys.length * d.sz := by
          have : (j + 1) * d.sz ≤ ys.length * d.sz := Nat.mul_le_mul_right _ hjl
          rw [Nat.add_mul, Nat.one_mul] at this
          omega
        rw [List.getElem?_take_of_lt hr, List.getElem?_drop, Array.getElem?_toList]
        have hlt' : j * d.sz + r < (flatK enc d.sz ys.toArray).size := by rw [hF]; exact hlt
        rw [Array.getElem?_eq_getElem hlt', ← getElem!_pos (flatK enc d.sz ys.toArray) (j * d.sz + r) hlt', get_flatK enc d.sz ys.toArray _ (by simpa using hlt)]
        have e2 : (j * d.sz + r) / d.sz = j := by
          rw [Nat.mul_comm, Nat.mul_add_div hs, Nat.div_eq_of_lt hr, Nat.add_zero]
        have e3 : (j * d.sz + r) % d.sz = r := by
          rw [Nat.mul_comm, Nat.mul_add_mod, Nat.mod_eq_of_lt hr]
        rw [e2, e3]
        have e5 : ys.toArray[j]! = p := by simp [hjl, hp]
        rw [e5]
        have : r < (enc p).length := by rw [hk]; exact hr
        rw [List.getElem?_eq_getElem this, List.getElem!_eq_getElem?_getD, List.getElem?_eq_getElem this]
        rfl
      · rw [List.getElem?_take_eq_none (by omega), List.getElem?_eq_none (by rw [hk]; omega)]
    rw [e1]
    exact hM _ _ _ _

set_option maxHeartbeats 1000000 in
theorem sortFunc_own {ρ : Go.Shelf.Ren} (L : SlLaysF0.n6 Try.prog ρ) (d : Kd α) (e : Nat) (enc : α → List Value) (hk : ∀ x, (enc x).length = d.sz) (hs : 0 < d.sz) (h1 : ∀ x, ∀ v ∈ enc x, v.oneCell' = true) (hM : ∀ w base ok x, d.M w base ok x (enc x)) (hM' : ∀ w base ok x cs, d.M w base ok x cs → cs = enc x)
    (aE : ∀ w, (isAgg (ρ.t 24)).run Try.prog w = .ok true w) (zE : ∀ w, (Go.sizeOf (ρ.t 24)).run Try.prog w = .ok d.sz w) (cf : α → α → Int) (hO : Go.Sort.SWO (ltOf cf)) (g : Nat) (cb : Array Value) (eg : ∀ args w, (callFunc g args).run Try.prog w = .ok (.enter g args) w) (p : Nat) (pv : Value)
    (hcl : ∀ W x y, W.cell? ⟨p, 0, none⟩ = some pv → Calls Try.prog g (#[.agg (enc x).toArray, .agg (enc y).toArray] ++ cb) W fun e w' => e = .returned (.int .i64 (cf x y)) ∧ ∃ q os', w' = Go.Sort.grow (W.drewN q) os')
    (xs : List α) (v : Value) (w : World) (base : Nat) (ho : Own d e w base v xs) (hbase : base ≤ w.heap.size) (hp : w.cell? ⟨p, 0, none⟩ = some pv) (hne : some p ≠ v.ownBlock) (hx : xs.length < 4611686018427387904) :
    Calls Try.prog (ρ.f 6) #[v, .func (.func g) #[] cb] w fun r w' => r = .returned (.tuple #[]) ∧ ∃ ys : List α, ys.Perm xs ∧ ys.Pairwise (fun a b => ltOf cf b a = false) ∧ Own d e w' base v ys ∧ Below base w w' := by
  rcases own_split ho with ⟨rfl, rfl⟩ | ⟨b, cap, cur, inner, rfl, hg, hb, h2, h3, h4, h5, hr⟩
  · refine (AnyF.slices_SortFunc_none L none 0 _ w).mono ?_
    rintro r w' ⟨rfl, rfl⟩
    exact ⟨rfl, [], List.Perm.refl _, List.Pairwise.nil, Kd.R_nil _ _ _ _ _, Below.refl _ _⟩
  · have hbl : b < w.heap.size := (Array.getElem?_eq_some_iff.1 hb).1
    have hpb : p ≠ b := fun e => hne (by rw [e]; rfl)
    have hpl : p < w.heap.size := World.block_lt_of_cell? w _ hp
    have hH : HoldsK enc d.sz w b 0 xs.toArray := holdsK_own hk hs (fun x cs h => hM' _ _ _ _ _ h) hb h2 h4 h5 hr
    have hcmp : CmpLays Try.prog g cb enc d.sz cf b 0 xs.toArray.size w := by
      intro m os dk hsz x y
      refine hcl _ x y ?_
      have := heap_sortK_ne (enc := enc) (k := d.sz) (n := m) (os := os) dk hpl hpb
      simp only [World.cell?] at hp ⊢
      rw [this]; exact hp
    have hmax : xs.toArray.size < 4611686018427387904 := by simpa using hx
    have hcon := AnyQ.slices_SortFunc L d.sz aE zE enc hk h1 cf hO g cb b 0 cap xs.toArray w eg hcmp hH hbl hmax
    refine hcon.mono ?_
    rintro r w' ⟨rfl, d', n, os, hpm, hsrt, rfl⟩
    have hl : d'.toList.length = xs.length := by have := hpm.1; simpa using this
    have hperm : d'.toList.Perm xs := by
      have h := hpm.2.2
      have e1 : (d'.extract 0 xs.toArray.size) = d' := by
        have : xs.toArray.size = d'.size := hpm.1.symm
        rw [this]; simp
      have e2 : (xs.toArray.extract 0 xs.toArray.size) = xs.toArray := by simp
      rw [e1, e2] at h
      simpa using h
    refine ⟨rfl, d'.toList, hperm, ?_, ?_, below_sortK _ hg hbase⟩
    · rw [List.pairwise_iff_getElem]
      intro i j hi hj hij
      have hj' : j < xs.toArray.size := by rw [← hpm.1]; simpa using hj
      have h := hsrt i j (Nat.zero_le _) hij hj'
      have hi'' : i < d'.size := by simpa using hi
      have hj'' : j < d'.size := by simpa using hj
      rw [getElem!_pos d' i hi'', getElem!_pos d' j hj''] at h
      simpa using h
    · have h := own_sortK (d := d) (e := e) (n := n) (os := os) hk hs hM d'.toList hl hg hb h2 h3 h4
      simpa using h
end

/-- Less, by three numbers. -/
def lt3 (a0 a1 a2 b0 b1 b2 : Int) : Prop := a0 < b0 ∨ (a0 = b0 ∧ (a1 < b1 ∨ (a1 = b1 ∧ a2 < b2)))
theorem cmp3_lt (a0 a1 a2 b0 b1 b2 : Int) : cmp3 a0 a1 a2 b0 b1 b2 < 0 ↔ lt3 a0 a1 a2 b0 b1 b2 := by
  unfold cmp3 cmpI lt3
  repeat' split
  all_goals omega
def ltE (a b : Event) : Prop := lt3 a.body.at_ a.src a.id b.body.at_ b.src b.id
def ltN (a b : News) : Prop := lt3 a.src (kN1 a) (kN2 a) b.src (kN1 b) (kN2 b)
theorem ltOf_cmpE (a b : Event) : ltOf cmpE a b = true ↔ ltE a b := by unfold ltOf cmpE ltE; rw [decide_eq_true_iff]; exact cmp3_lt _ _ _ _ _ _
theorem ltOf_cmpN (a b : News) : ltOf cmpN a b = true ↔ ltN a b := by unfold ltOf cmpN ltN; rw [decide_eq_true_iff]; exact cmp3_lt _ _ _ _ _ _
theorem swo3 {α : Type} (lt : α → α → Bool) (f0 f1 f2 : α → Int) (h : ∀ a b, lt a b = true ↔ lt3 (f0 a) (f1 a) (f2 a) (f0 b) (f1 b) (f2 b)) : Go.Sort.SWO lt where
  irrefl x := by
    cases hx : lt x x
    · rfl
    · have := (h x x).1 hx
      unfold lt3 at this
      omega
  trans x y z h1 h2 := by
    have a := (h x y).1 h1
    have b := (h y z).1 h2
    refine (h x z).2 ?_
    unfold lt3 at *
    omega
  ntrans x y z h1 h2 := by
    have a : ¬ lt3 (f0 x) (f1 x) (f2 x) (f0 y) (f1 y) (f2 y) := fun c => by rw [(h x y).2 c] at h1; cases h1
    have b : ¬ lt3 (f0 y) (f1 y) (f2 y) (f0 z) (f1 z) (f2 z) := fun c => by rw [(h y z).2 c] at h2; cases h2
    cases hx : lt x z
    · rfl
    · have c := (h x z).1 hx
      unfold lt3 at *
      omega
def encE (x : Event) : List Value := [.int .i64 x.src, .int .i64 x.id, .int .i64 x.body.at_, .int .i64 x.body.key, .int .i64 x.body.val]
def encN (x : News) : List Value := [.int .i64 x.do_, .int .i64 x.src, .int .i64 x.id, .int .i64 x.ver, .int .i64 x.body.at_, .int .i64 x.body.key, .int .i64 x.body.val]
theorem kEvent_openM {w : World} {base : Nat} {ok : Nat → Prop} {x : Event} {cs : List Value} (h : kEvent.M w base ok x cs) : cs = encE x := by
  obtain ⟨_, _, rfl, rfl, _, _, rfl, rfl, _, _, rfl, rfl, _, _, rfl, rfl, rfl⟩ := h; rfl
theorem kNews_openM {w : World} {base : Nat} {ok : Nat → Prop} {x : News} {cs : List Value} (h : kNews.M w base ok x cs) : cs = encN x := by
  obtain ⟨_, _, rfl, rfl, _, _, rfl, rfl, _, _, rfl, rfl, _, _, rfl, rfl, _, _, rfl, rfl, _, _, rfl, rfl, rfl⟩ := h; rfl
instance : Inhabited Event := ⟨⟨0, 0, ⟨0, 0, 0⟩⟩⟩
instance : Inhabited News := ⟨zeroNews⟩
theorem six_grow (W : World) (o1 o2 o3 o4 o5 o6 : Obj) : ((((((W.alloc o1).alloc o2).alloc o3).alloc o4).alloc o5).alloc o6).drew = Go.Sort.grow (W.drewN 1) (#[o1] ++ (#[o2] ++ (#[o3] ++ (#[o4] ++ (#[o5] ++ #[o6]))))) := by
  rw [Go.Sort.alloc_eq_grow, Go.Sort.alloc_eq_grow, Go.Sort.alloc_eq_grow, Go.Sort.alloc_eq_grow, Go.Sort.alloc_eq_grow, Go.Sort.alloc_eq_grow, Go.Sort.grow_grow, Go.Sort.grow_grow, Go.Sort.grow_grow, Go.Sort.grow_grow, Go.Sort.grow_grow, Go.Sort.drew_grow, show W.drew = W.drewN 1 from rfl]

set_option maxRecDepth 100000 in
set_option maxHeartbeats 1000000 in
theorem sortFuncE (xs : List Event) (v : Value) (w : World) (base p : Nat) (ho : Own kEvent 49 w base v xs) (hbase : base ≤ w.heap.size) (hp : w.cell? ⟨p, 0, none⟩ = some (.func (.func 44) #[] #[])) (hne : some p ≠ v.ownBlock) (hx : xs.length < 4611686018427387904) :
    Calls Try.prog 65 #[v, .func (.func 66) #[] #[.pointer (some ⟨p, 0, none⟩)]] w fun r w' => r = .returned (.tuple #[]) ∧ ∃ ys : List Event, ys.Perm xs ∧ ys.Pairwise (fun a b => ltOf cmpE b a = false) ∧ Own kEvent 49 w' base v ys ∧ Below base w w' :=
  sortFunc_own Try.laysSortE kEvent 49 encE (fun x => (rfl : (encE x).length = 5)) (by show 0 < 5; omega) (fun x v hv => by simp [encE] at hv; rcases hv with rfl | rfl | rfl | rfl | rfl <;> rfl) (fun w base ok x => kEvent_mkM w base ok x) (fun w base ok x cs h => kEvent_openM h)
    (fun w => by kernel_rfl) (fun w => by kernel_rfl) cmpE (swo3 _ (fun e => e.body.at_) (fun e => e.src) (fun e => e.id) ltOf_cmpE) 66 #[.pointer (some ⟨p, 0, none⟩)] (enters_of Try.func66 (by kernel_rfl) rfl) p _
    (fun W x y hc => (hist_sortedE1 x y p W hc).mono (by rintro e w' ⟨he, o1, o2, o3, o4, o5, o6, rfl⟩; exact ⟨he, 1, _, six_grow W o1 o2 o3 o4 o5 o6⟩)) xs v w base ho hbase hp hne hx
set_option maxRecDepth 100000 in
set_option maxHeartbeats 1000000 in
theorem sortFuncN (xs : List News) (v : Value) (w : World) (base p : Nat) (ho : Own kNews 38 w base v xs) (hbase : base ≤ w.heap.size) (hp : w.cell? ⟨p, 0, none⟩ = some (.func (.func 76) #[] #[])) (hne : some p ≠ v.ownBlock) (hx : xs.length < 4611686018427387904) :
    Calls Try.prog 91 #[v, .func (.func 92) #[] #[.pointer (some ⟨p, 0, none⟩)]] w fun r w' => r = .returned (.tuple #[]) ∧ ∃ ys : List News, ys.Perm xs ∧ ys.Pairwise (fun a b => ltOf cmpN b a = false) ∧ Own kNews 38 w' base v ys ∧ Below base w w' :=
  sortFunc_own Try.laysSortN kNews 38 encN (fun x => (rfl : (encN x).length = 7)) (by show 0 < 7; omega) (fun x v hv => by simp [encN] at hv; rcases hv with rfl | rfl | rfl | rfl | rfl | rfl | rfl <;> rfl) (fun w base ok x => kNews_mkM w base ok x) (fun w base ok x cs h => kNews_openM h)
    (fun w => by kernel_rfl) (fun w => by kernel_rfl) cmpN (swo3 _ (fun e => e.src) kN1 kN2 ltOf_cmpN) 92 #[.pointer (some ⟨p, 0, none⟩)] (enters_of Try.func92 (by kernel_rfl) rfl) p _
    (fun W x y hc => (hist_sortedN1 x y p W hc).mono (by rintro e w' ⟨he, o1, o2, o3, o4, o5, o6, rfl⟩; exact ⟨he, 1, _, six_grow W o1 o2 o3 o4 o5 o6⟩)) xs v w base ho hbase hp hne hx

set_option maxRecDepth 100000 in
set_option maxHeartbeats 1000000 in
theorem hist_sortedE (xs : List Event) (v : Value) (w : World) (base : Nat) (ho : Own kEvent 49 w base v xs) (hbase : base ≤ w.heap.size) (hx : xs.length < 4611686018427387904) :
    Calls Try.prog 43 #[v, .func (.func 44) #[] #[]] w fun r w' => r = .returned v ∧ ∃ ys : List Event, ys.Perm xs ∧ ys.Pairwise (fun a b => ltOf cmpE b a = false) ∧ Own kEvent 49 w' base v ys ∧ Below base w w' := by
  have Ho := Lib.hid ho
  have hlt := Kd.R_lt ho
  clear ho
  go_enter Try.func43, Try.ntmps43
  go_wp2_with (first | (go_at_call 65; (with_reducible refine (sortFuncE xs v _ base w.heap.size (own_later Ho.out (below_alloc (Below.refl _ _) _)) (by simp; omega) (by go_simp) (fun e => by have := hlt _ e.symm; omega) hx).mono ?_); rintro e w2 ⟨rfl, ys, h1, h2, h3, h4⟩))
  go_ret
  exact ⟨rfl, ys, h1, h2, h3, ⟨h4.os, h4.tape, h4.output, Nat.le_trans (by simp) h4.size, fun i hi => (h4.block i hi).trans ((below_alloc (Below.refl w.heap.size w) _).block i (Nat.lt_of_lt_of_le hi hbase))⟩⟩
set_option maxRecDepth 100000 in
set_option maxHeartbeats 1000000 in
theorem hist_sortedN (xs : List News) (v : Value) (w : World) (base : Nat) (ho : Own kNews 38 w base v xs) (hbase : base ≤ w.heap.size) (hx : xs.length < 4611686018427387904) :
    Calls Try.prog 75 #[v, .func (.func 76) #[] #[]] w fun r w' => r = .returned v ∧ ∃ ys : List News, ys.Perm xs ∧ ys.Pairwise (fun a b => ltOf cmpN b a = false) ∧ Own kNews 38 w' base v ys ∧ Below base w w' := by
  have Ho := Lib.hid ho
  have hlt := Kd.R_lt ho
  clear ho
  go_enter Try.func75, Try.ntmps75
  go_wp2_with (first | (go_at_call 91; (with_reducible refine (sortFuncN xs v _ base w.heap.size (own_later Ho.out (below_alloc (Below.refl _ _) _)) (by simp; omega) (by go_simp) (fun e => by have := hlt _ e.symm; omega) hx).mono ?_); rintro e w2 ⟨rfl, ys, h1, h2, h3, h4⟩))
  go_ret
  exact ⟨rfl, ys, h1, h2, h3, ⟨h4.os, h4.tape, h4.output, Nat.le_trans (by simp) h4.size, fun i hi => (h4.block i hi).trans ((below_alloc (Below.refl w.heap.size w) _).block i (Nat.lt_of_lt_of_le hi hbase))⟩⟩
end Go.Proofs.Ytdpkpibcjbllcaa
set_option linter.unusedVariables false
set_option linter.unusedSimpArgs false
/-! A map ranged over: whichever entry comes next; each comes once. -/
namespace Go.Proofs.Ytdpkpibcjbllcaa
open Go.RowKit Go.Proofs.YtdpkpibcjbllcaaW.PrintWords

section
variable {κ : Type} {enc : κ → Value} {P : Program}
theorem entsFrom_at (enc : κ → Value) : ∀ (l : List (κ × Value)) (s i : Nat), (entsFrom enc s l)[i]? = (l[i]?).map fun p => ⟨enc p.1, p.2, s + i⟩
  | [], s, i => by simp [entsFrom]
  | (k, v) :: l, s, 0 => by simp [entsFrom]
  | (k, v) :: l, s, i + 1 => by
    simp only [entsFrom, List.getElem?_cons_succ]
    rw [entsFrom_at enc l (s + 1) i]
    congr 1
    funext p
    congr 1
    omega
theorem entsFrom_born (enc : κ → Value) : ∀ (l : List (κ × Value)) (s : Nat), (entsFrom enc s l).map (·.born) = List.range' s l.length
  | [], s => by simp [entsFrom]
  | (k, v) :: l, s => by simp [entsFrom, entsFrom_born enc l (s + 1), List.range'_succ]
/-- Under way: the entries met so far, by their numbers. -/
def RangeAt (w : World) (b r : Nat) (enc : κ → Value) (L : List (κ × Value)) (js : List Nat) : Prop :=
  w.heap[b]? = some (mapObj enc L) ∧ w.heap[r]? = some (.mapIter (some b) L.length js.toArray L.length) ∧ js.Nodup ∧ ∀ i ∈ js, i < L.length
theorem RangeAt.later {w w' : World} {b r : Nat} {L : List (κ × Value)} {js : List Nat} (h : RangeAt w b r enc L js) (hb : Below w.heap.size w w') : RangeAt w' b r enc L js :=
  ⟨heap_later hb h.1, heap_later hb h.2.1, h.2.2⟩
theorem RangeAt.grown {w w' : World} {b r : Nat} {L : List (κ × Value)} {js : List Nat} {row : Option Nat} (h : RangeAt w b r enc L js) (hg : w.grownBy w' row) (h1 : some b ≠ row) (h2 : some r ≠ row) : RangeAt w' b r enc L js :=
  ⟨(hg.block b (Array.getElem?_eq_some_iff.1 h.1).1 h1).trans h.1, (hg.block r (Array.getElem?_eq_some_iff.1 h.2.1).1 h2).trans h.2.1, h.2.2⟩
theorem RangeAt.ne {w : World} {b r : Nat} {L : List (κ × Value)} {js : List Nat} (h : RangeAt w b r enc L js) : b ≠ r := by
  intro e
  have h1 := h.1
  have h2 := h.2.1
  rw [e, h2] at h1
  simp [mapObj] at h1
theorem range_start {w : World} {b : Nat} {L : List (κ × Value)} {t k e : TypeId} (ht : P.underlying t = some (.map k e)) (hb : w.heap[b]? = some (mapObj enc L)) :
    (Instr.range t (.map (some b))).run P w = .ok (.pointer (some ⟨w.heap.size, 0, none⟩)) (w.alloc (.mapIter (some b) L.length #[] L.length)) ∧ RangeAt (w.alloc (.mapIter (some b) L.length #[] L.length)) b w.heap.size enc L [] :=
  ⟨run_range_map w t k e b _ _ ht hb, (heap_alloc_old w _ (Array.getElem?_eq_some_iff.1 hb).1).trans hb, heap_alloc_new _ _, List.nodup_nil, fun i hi => by simp at hi⟩
variable {ops : Array Oper} {rest : List Oper} {o : Oper} {a : Act} {Q : Exit → Act → World → Prop}
theorem wpList_range_at {w : World} {b : Nat} {L : List (κ × Value)} {t k e : TypeId} (hg : o.guard = none) (m : Operand) (hop : o.op = Op.range t m) (ht : P.underlying t = some (.map k e)) (hm : a.eval m = .map (some b)) (hb : w.heap[b]? = some (mapObj enc L))
    (hK : ∀ w', w' = w.alloc (.mapIter (some b) L.length #[] L.length) → RangeAt w' b w.heap.size enc L [] → wpList P ops Q rest (a.put o.dst (.pointer (some ⟨w.heap.size, 0, none⟩))) w') : wpList P ops Q (o :: rest) a w := by
  refine wpList_plain hg fun K' hK' => ?_
  obtain ⟨hrun, hra⟩ := range_start (P := P) (enc := enc) (L := L) ht hb
  unfold Oper.wp
  simp [execOp, hop, hm, hrun, Result.andThen]
  exact hK' _ _ (hK _ rfl hra)
theorem wpList_next_at {w : World} {b r : Nat} {L : List (κ × Value)} {js : List Nat} (hg : o.guard = none) (it : Operand) (hop : o.op = Op.next it false) (hit : a.eval it = .pointer (some ⟨r, 0, none⟩)) (h : RangeAt w b r enc L js)
    (hDone : (∀ i, i < L.length → i ∈ js) → wpList P ops Q rest (a.put o.dst (.tuple #[.bool false])) w)
    (hMore : ∀ (i : Nat) (k : κ) (v : Value) (w' : World), L[i]? = some (k, v) → i ∉ js → RangeAt w' b r enc L (js ++ [i]) → w.grownBy w' (some r) → w'.heap.size = w.heap.size →
      (Instr.entry (.pointer (some ⟨r, 0, none⟩))).run P w' = .ok (.tuple #[enc k, v]) w' → wpList P ops Q rest (a.put o.dst (.tuple #[.bool true, enc k, v])) w') :
    wpList P ops Q (o :: rest) a w := by
  obtain ⟨hb, hr, hnd, hlt⟩ := h
  refine wpList_plain hg fun K' hK' => ?_
  unfold Oper.wp
  have hold : ∀ x ∈ (entsFrom enc 0 L).toArray.toList, x.born < L.length := by
    intro x hx
    have hx' : x ∈ entsFrom enc 0 L := by simpa using hx
    have : x.born ∈ (entsFrom enc 0 L).map (·.born) := List.mem_map.2 ⟨x, hx', rfl⟩
    rw [entsFrom_born] at this
    have := List.mem_range'_1.1 this
    omega
  rcases run_next_at (P := P) w o.type r b L.length L.length js.toArray (entsFrom enc 0 L).toArray L.length hr hb hold (Nat.le_refl _) with ⟨h0, hrun⟩ | ⟨e, he, w1, hal, hrun⟩
  · simp [execOp, hop, hit, hrun, Result.andThen]
    refine hK' _ _ (hDone fun i hi => ?_)
    have hm : (⟨enc (L[i]).1, (L[i]).2, 0 + i⟩ : MapEntry) ∈ (entsFrom enc 0 L).toArray.toList := by
      have := entsFrom_at enc L 0 i
      rw [List.getElem?_eq_getElem hi] at this
      simpa using List.mem_of_getElem? this
    have := all_seen _ _ h0 _ hm
    simpa using this
  · obtain ⟨hem, hes⟩ := mem_left he
    have hem' : e ∈ entsFrom enc 0 L := by simpa using hem
    obtain ⟨i, hi⟩ := List.getElem?_of_mem hem'
    rw [entsFrom_at] at hi
    cases hLi : L[i]? with
    | none => rw [hLi] at hi; simp at hi
    | some p =>
      obtain ⟨k, v⟩ := p
      rw [hLi] at hi
      have he2 : e = ⟨enc k, v, i⟩ := by simpa using hi.symm
      subst he2
      have hni : i ∉ js := by simpa using hes
      have hil : i < L.length := (List.getElem?_eq_some_iff.1 hLi).1
      have hr1 : w1.heap[r]? = some (.mapIter (some b) L.length js.toArray L.length) := by rcases hal with rfl | rfl <;> exact hr
      have hb1 : w1.heap[b]? = some (mapObj enc L) := by rcases hal with rfl | rfl <;> exact hb
      have hset : (Go.ChangeMaps.setBlock w1 r (.mapIter (some b) L.length (js.toArray.push i) L.length)).heap[r]? = some (.mapIter (some b) L.length (js.toArray.push i) L.length) ∧ ∀ r', r' ≠ r → (Go.ChangeMaps.setBlock w1 r (.mapIter (some b) L.length (js.toArray.push i) L.length)).heap[r']? = w1.heap[r']? := Go.MapKept.heap_set (o' := .mapIter (some b) L.length (js.toArray.push i) L.length) hr1
      have hbr : b ≠ r := RangeAt.ne (enc := enc) ⟨hb, hr, hnd, hlt⟩
      have hb' := (hset.2 b hbr).trans hb1
      have hpush : js.toArray.push i = (js ++ [i]).toArray := by simp
      rw [hpush] at hset hb'
      simp [execOp, hop, hit, hrun, Result.andThen]
      refine hK' _ _ (hMore i k v _ hLi hni ⟨hb', hset.1, ?_, ?_⟩ ?_ ?_ ?_)
      · exact List.nodup_append.2 ⟨hnd, by simp, by simpa using fun x hx (e : x = i) => hni (e ▸ hx)⟩
      · intro x hx
        rcases List.mem_append.1 hx with h | h
        · exact hlt x h
        · simp at h; omega
      · rcases hal with rfl | rfl <;> exact ⟨rfl, rfl, rfl, by simp [Go.ChangeMaps.setBlock], fun j _ hj => hset.2 j (fun e1 => hj (by rw [e1]))⟩
      · rcases hal with rfl | rfl <;> simp [Go.ChangeMaps.setBlock]
      · exact run_entry_at _ r b L.length js.toArray (entsFrom enc 0 L).toArray L.length _ (hset.1.trans (by rw [← hpush])) hb' hem (by
          have : (entsFrom enc 0 L).toArray.toList.map (·.born) = List.range' 0 L.length := by simpa using entsFrom_born enc L 0
          rw [this]; exact List.nodup_range')
end
/-- What was met is, in the end, all. -/
theorem met_all {α : Type} {L : List α} {js : List Nat} (hnd : js.Nodup) (hlt : ∀ i ∈ js, i < L.length) (h : ∀ i, i < L.length → i ∈ js) : js.Perm (List.range L.length) := by
  refine (List.perm_ext_iff_of_nodup hnd List.nodup_range).2 fun i => ?_
  rw [List.mem_range]
  exact ⟨hlt i, h i⟩
end Go.Proofs.Ytdpkpibcjbllcaa
set_option linter.unusedVariables false
set_option linter.unusedSimpArgs false
/-! The events that stand. -/
namespace Go.Proofs.Ytdpkpibcjbllcaa
open Go.RowKit Go.Proofs.YtdpkpibcjbllcaaW.PrintWords

theorem plainB_src {l : List News} {srcs : Int} (h : plainB l srcs = true) : (1 ≤ srcs ∧ srcs ≤ 4) ∧ l.length ≤ 60 ∧ ∀ n ∈ l, goodB n srcs = true := by
  simp only [plainB, Bool.and_eq_true, decide_eq_true_eq, Bool.not_eq_true', inB, List.any_eq_false, Bool.not_eq_false] at h
  obtain ⟨h1, h2, h3⟩ := h
  refine ⟨h1, h2, fun n hn => ?_⟩
  have := h3 n hn
  simpa using this
theorem formedB_plain {l : List News} {srcs : Int} (h : formedB l srcs = true) : plainB l srcs = true := by
  simp only [formedB, Bool.and_eq_true] at h; exact h.1
theorem plainB_heard {l : List News} {srcs : Int} (h : plainB l srcs = true) : ∀ n ∈ l, 0 ≤ n.src ∧ n.src < 4 := by
  intro n hn
  obtain ⟨⟨h1, h2⟩, _, h4⟩ := plainB_src h
  have := h4 n hn
  simp only [goodB, inB, Bool.and_eq_true, decide_eq_true_eq] at this
  omega
theorem info_event : (Try.prog.info? 49).map (fun i => (i.zero, i.size, i.bytes)) = some (some (.agg #[(.int .i64 0), (.int .i64 0), (.int .i64 0), (.int .i64 0), (.int .i64 0)]), 5, 40) := by kernel_rfl
theorem info_news : (Try.prog.info? 38).map (fun i => (i.zero, i.size, i.bytes)) = some (some (.agg #[(.int .i64 0), (.int .i64 0), (.int .i64 0), (.int .i64 0), (.int .i64 0), (.int .i64 0), (.int .i64 0)]), 7, 56) := by kernel_rfl
theorem info_int : (Try.prog.info? 3).map (fun i => (i.zero, i.size, i.bytes)) = some (some (.int .i64 0), 1, 8) := by kernel_rfl
theorem ne_ownBlock {α : Type} {d : Kd α} {e base : Nat} {w : World} {v : Value} {xs : List α} (ho : Own d e w base v xs) {g : Nat} {o : Obj} (hg : w.heap[g]? = some o) (hne : ∀ cells, o ≠ .cells cells e (0, 0)) : some g ≠ v.ownBlock := by
  intro h
  obtain ⟨cells, hc⟩ := Kd.R_typed ho g h.symm
  rw [hg] at hc
  exact hne cells (Option.some.inj hc)
theorem HeardAt.grown {w w' : World} {g b : Nat} {L : List (Key × News)} {M : List Int} {row : Option Nat} (h : HeardAt w g b L M) (hg : w.grownBy w' row) (h1 : some g ≠ row) (h2 : some b ≠ row) : HeardAt w' g b L M :=
  ⟨h.len, (hg.block g (Array.getElem?_eq_some_iff.1 h.cells).1 h1).trans h.cells, (hg.block b (Array.getElem?_eq_some_iff.1 h.map).1 h2).trans h.map⟩
theorem own_grown {α : Type} {d : Kd α} {e base : Nat} {w w' : World} {v : Value} {xs : List α} (ho : Own d e w base v xs) {r : Nat} {o : Obj} (hg : w.grownBy w' (some r)) (hr : w.heap[r]? = some o) (hne : ∀ cells q, o ≠ .cells cells q (0, 0)) : Own d e w' base v xs :=
  Kd.R_mono (Kd.R_step (Kd.R_bound ho) (fun k hk hlt => hg.block k hlt (fun h => by
    obtain ⟨_, _, _, q, _, cells, hc⟩ := hk
    have : k = r := Option.some.inj h
    rw [this, hr] at hc
    exact hne cells q (Option.some.inj hc)))) (fun _ _ => trivial)
theorem mapV_at {L : List (Key × News)} {i : Nat} {k : Key} {v : Value} (h : (mapV newsVal L)[i]? = some (k, v)) : ∃ x, L[i]? = some (k, x) ∧ v = newsVal x := by
  unfold mapV at h
  rw [List.getElem?_map] at h
  cases hL : L[i]? with
  | none => rw [hL] at h; simp at h
  | some p =>
    obtain ⟨k', x⟩ := p
    rw [hL] at h
    simp only [Option.map_some, Option.some.injEq, Prod.mk.injEq] at h
    exact ⟨x, by rw [h.1], h.2.symm⟩
/-- How many a loop over a map has met. -/
def metOf (w : World) (r : Nat) : Nat := match w.heap[r]? with
  | some (.mapIter _ _ seen _) => seen.size
  | _ => 0
theorem RangeAt.met {κ : Type} {enc : κ → Value} {w : World} {b r : Nat} {L : List (κ × Value)} {js : List Nat} (h : RangeAt w b r enc L js) : metOf w r = js.length := by
  simp [metOf, h.2.1]
theorem RangeAt.len {κ : Type} {enc : κ → Value} {w : World} {b r : Nat} {L : List (κ × Value)} {js : List Nat} (h : RangeAt w b r enc L js) : js.length ≤ L.length := by
  have h1 : js.Perm ((List.range L.length).filter (fun i => decide (i ∈ js))) := (List.perm_ext_iff_of_nodup h.2.2.1 (List.nodup_range.filter _)).2 fun i => by
    simp only [List.mem_filter, List.mem_range, decide_eq_true_eq]
    exact ⟨fun hi => ⟨h.2.2.2 i hi, hi⟩, fun hi => hi.2⟩
  have h2 := h1.length_eq
  have h3 := List.length_filter_le (fun i => decide (i ∈ js)) (List.range L.length)
  rw [List.length_range] at h3
  omega
/-- What the entries of some numbers stand for. -/
def standsJ (L : List (Key × News)) (js : List Nat) : List Event := js.flatMap fun i => match L[i]? with
  | some p => standsK L p.1
  | none => []
theorem standsJ_snoc {L : List (Key × News)} {js : List Nat} {i : Nat} {p : Key × News} (h : L[i]? = some p) : standsJ L (js ++ [i]) = standsJ L js ++ standsK L p.1 := by
  simp [standsJ, h]
theorem standsK_len (L : List (Key × News)) (k : Key) : (standsK L k).length ≤ 1 := by
  unfold standsK
  split
  · split <;> simp
  · simp
theorem standsJ_len (L : List (Key × News)) : ∀ js : List Nat, (standsJ L js).length ≤ js.length
  | [] => by simp [standsJ]
  | i :: js => by
    have ih := standsJ_len L js
    have h1 : standsJ L (i :: js) = (match L[i]? with | some p => standsK L p.1 | none => []) ++ standsJ L js := by simp [standsJ]
    rw [h1, List.length_append, List.length_cons]
    have : (match L[i]? with | some p => standsK L p.1 | none => []).length ≤ 1 := by
      split
      · exact standsK_len _ _
      · simp
    omega
theorem standsJ_all (L : List (Key × News)) {js : List Nat} (h : js.Perm (List.range L.length)) : (standsJ L js).Perm (L.flatMap fun p => standsK L p.1) := by
  refine (List.Perm.flatMap_right _ h).trans ?_
  have : (List.range L.length).flatMap (fun i => match L[i]? with | some p => standsK L p.1 | none => []) = L.flatMap fun p => standsK L p.1 := by
    have key : ∀ (l : List (Key × News)) (f : Key × News → List Event), (List.range l.length).flatMap (fun i => match l[i]? with | some p => f p | none => []) = l.flatMap f := by
      intro l f
      induction l with
      | nil => rfl
      | cons a l ih =>
        rw [List.length_cons, List.range_succ_eq_map, List.flatMap_cons, List.flatMap_cons, List.flatMap_map]
        congr 1
    exact key L _
  rw [this]
theorem hearL_len (L : List (Key × News)) (n : News) : (hearL L n).length ≤ L.length + 1 := by
  have hp : ∀ (L : List (Key × News)), (aput (keyOf n) n L).length ≤ L.length + 1 := by
    intro L
    induction L with
    | nil => simp [aput]
    | cons a L ih =>
      obtain ⟨k, v⟩ := a
      simp only [aput]
      split
      · simp
      · simpa using ih
  unfold hearL
  split
  · exact hp L
  · split
    · exact hp L
    · omega
theorem hearAll_len (l : List News) : (hearAll l).1.length ≤ l.length := by
  have key : ∀ (l : List News) (s : List (Key × News) × List Int), (l.foldl hear s).1.length ≤ s.1.length + l.length := by
    intro l
    induction l with
    | nil => intro s; simp
    | cons n l ih =>
      intro s
      have h1 := ih (hear s n)
      have h2 : (hear s n).1.length ≤ s.1.length + 1 := by
        unfold hear
        split
        · simp
        · exact hearL_len _ _
      simp only [List.foldl_cons, List.length_cons]
      omega
  simpa [hearAll] using key l ([], [0, 0, 0, 0])
/-- Sorted: the same ones, in right order. -/
def SortE (xs ys : List Event) : Prop := ys.Perm xs ∧ ys.Pairwise (fun a b => ltOf cmpE b a = false)
def outE (l : List News) : List Event := (hearAll l).1.flatMap fun p => standsK (hearAll l).1 p.1
def StandsRes (f : Bool) (oe : List Event) (w : World) (e : Ending) (w' : World) : Prop :=
  ∃ v ys, e = .returned (.tuple #[v, .int .i64 (if f then 0 else 2)]) ∧ Own kEvent 49 w' w.heap.size v ys ∧ (f = true → SortE oe ys) ∧ (f = false → ys = []) ∧ Below w.heap.size w w'
theorem ranges_cells {κ : Type} {enc : κ → Value} {w : World} {b r : Nat} {L : List (κ × Value)} {js : List Nat} {e : Nat} (h : RangeAt w b r enc L js) : (∀ cells, mapObj enc L ≠ .cells cells e (0, 0)) ∧ ∀ cells, (Obj.mapIter (some b) L.length js.toArray L.length) ≠ .cells cells e (0, 0) :=
  ⟨fun c hc => by simp [mapObj] at hc, fun c hc => by cases hc⟩

set_option maxRecDepth 100000 in
set_option maxHeartbeats 2000000 in
theorem hist_Stands (l : List News) (A : Option Addr) (c : Nat) (srcs : Int) (w : World) (hr : NewsRow w A l.length l) (hc : l.length ≤ c) :
    Calls Try.prog 12 #[.slice A l.length c, .int .i64 srcs] w (StandsRes (formedB l srcs) (outE l) w) := by
  have Hr := Lib.hid hr
  clear hr
  cases hf : formedB l srcs
  · go_enter Try.func12, Try.ntmps12
    go_wp2_with (first | (go_at_call 40; (with_reducible refine (hist_formed l A c srcs _ Hr.out hc).mono ?_); rintro e w' ⟨rfl, hb⟩))
    go_ret2
    exact ⟨_, [], rfl, Kd.R_nil _ _ _ _ _, fun h => (by cases h), fun _ => rfl, hb⟩
  · have hlen := Lib.hid (plainB_src (formedB_plain hf)).2.1
    have hsrc := Lib.hid (plainB_heard (formedB_plain hf))
    have hL := hearAll_len l
    have hLlen : (hearAll l).1.length ≤ 60 := by have := hlen.out; omega
    clear hL
    obtain ⟨oe, hoe⟩ : ∃ oe, outE l = oe := ⟨_, rfl⟩
    rw [hoe]
    have Hoe : Hid (((hearAll l).1.flatMap fun p => standsK (hearAll l).1 p.1) = oe) := Lib.hid hoe
    clear hoe
    go_enter Try.func12, Try.ntmps12
    go_upto_region 5 with (first | (go_at_call 40; (with_reducible refine (hist_formed l A c srcs _ Hr.out hc).mono ?_); rintro e w1 ⟨rfl, hb1⟩) | (go_at_call 41; (with_reducible refine (hist_all l A c _ (news_later Hr.out hb1) hsrc.out).mono ?_); rintro e w2 ⟨g, b, rfl, hg, hb, hs, hb2⟩))
    have hB := below_step hb1 hb2
    have hwg : w.heap.size ≤ g := Nat.le_trans hb1.size hg
    have hwb : w.heap.size ≤ b := Nat.le_trans hb1.size hb
    clear hb1 hb2 hg hb
    generalize (hearAll l).1 = L at *
    generalize (hearAll l).2 = M at *
    have hg0 := hs.cell
    have hgl := World.block_lt_of_cell? _ _ hs.cell
    have Hs := Lib.hid hs
    clear hs
    go_wp2_with (first | (at_range; refine wpList_range_at (enc := encKey) (L := mapV newsVal L) rfl _ rfl Try.underlying62 rfl Hs.out.map ?_; intro w3 hw3 hrg; have Hw3 := Lib.hid hw3; clear hw3))
    try go_frame
    have hb23 : Below w2.heap.size w2 w3 := by rw [Hw3.out]; exact below_alloc (Below.refl _ _) _
    have hB3 := below_step hB hb23
    have hs3 := Hs.out.later hb23
    have hg3 := cell_later' hb23 hg0
    have hrl : w.heap.size ≤ w2.heap.size := hB.size
    clear Hw3 hg0 Hs hb23
    generalize w2.heap.size = r at *
    go_loopw [7] (fun v wr => ∃ js, RangeAt wr b r encKey (mapV newsVal L) js ∧ HeardAt wr g b L M ∧ Own kEvent 49 wr w.heap.size v (standsJ L js) ∧ Below w.heap.size w wr) (fun _ wr => 61 - metOf wr r)
    case atStart => exact ⟨[], hrg, hs3, Kd.R_nil _ _ _ _ _, hB3⟩
    case round =>
      obtain ⟨js, hrg, hs, hO, hBr⟩ := hrel
      have hne1 : ∀ cells q, (Obj.mapIter (some b) (mapV newsVal L).length js.toArray (mapV newsVal L).length) ≠ .cells cells q (0, 0) := fun _ _ h => by cases h
      have hrit := hrg.2.1
      have hbr : b ≠ r := hrg.ne
      have hgr : g ≠ r := fun e => by
        have h1 := hs.cells
        rw [e, hrit] at h1
        cases h1
      have hll : (mapV newsVal L).length = L.length := by simp [mapV]
      go_wp2_with (first | (at_next; refine wpList_next_at (enc := encKey) (L := mapV newsVal L) rfl _ rfl rfl hrg ?_ ?_))
      · intro hall
        have hp := met_all hrg.2.2.1 hrg.2.2.2 (fun i hi => hall i (by rw [← hll]; exact hi))
        rw [hll] at hp
        have Hp := Lib.hid hp
        have hjl : (standsJ L js).length < 4611686018427387904 := by
          have h1 := standsJ_len L js
          have h2 := hrg.len
          omega
        have HO := Lib.hid hO
        clear hp hO hall hrg hs hrit
        go_wp2_with (first | (go_at_call 43; (with_reducible refine (hist_sortedE _ _ _ w.heap.size HO.out hBr.size hjl).mono ?_); rintro e w5 ⟨rfl, ys, h1, h2, h3, h4⟩))
        go_ret2
        refine ⟨_, ys, rfl, h3, fun _ => ⟨h1.trans ?_, h2⟩, fun h => (by cases h), ?_⟩
        · rw [← Hoe.out]; exact standsJ_all L Hp.out
        · exact ⟨h4.os.trans hBr.os, h4.tape.trans hBr.tape, h4.output.trans hBr.output, Nat.le_trans hBr.size h4.size, fun i hi => (h4.block i hi).trans (hBr.block i hi)⟩
      · intro i k v w4 hi hni hrg4 hg4 hs4 hen
        obtain ⟨x, hix, rfl⟩ := mapV_at hi
        have hO4 := own_grown hO hg4 hrit hne1
        have hs5 := hs.grown hg4 (fun e => hgr (Option.some.inj e)) (fun e => hbr (Option.some.inj e))
        have hB4 : Below w.heap.size w w4 := hBr.grown hg4 hBr.size (fun j hj => by cases hj; omega)
        have hmet := hrg.met
        have hjl := hrg4.len
        have Hmet := Lib.hid hmet
        rw [List.length_append, List.length_singleton] at hjl
        clear hs4 hg4 hO hs hBr hrit hne1 hi hrg hmet
        go_upto_region 8 with (fail)
        have hbw := below_alloc hB4 (.cells #[.int .i64 k.src, .int .i64 k.id] 67)
        have hbx : Below w4.heap.size w4 (w4.alloc (.cells #[.int .i64 k.src, .int .i64 k.id] 67)) := below_alloc (Below.refl _ _) _
        have hi0 : (w4.alloc (.cells #[.int .i64 k.src, .int .i64 k.id] 67)).cell? ⟨w4.heap.size, 0, none⟩ = some (.int .i64 k.src) := by go_simp
        have hi1 : (w4.alloc (.cells #[.int .i64 k.src, .int .i64 k.id] 67)).cell? ⟨w4.heap.size, 1, none⟩ = some (.int .i64 k.id) := by go_simp
        have hrg5 := hrg4.later hbx
        have hs6 := hs5.later hbx
        have hO5 := own_later hO4 hbx
        clear hen hbx hO4 hrg4 hs5 hB4
        generalize (w4.alloc (.cells #[.int .i64 k.src, .int .i64 k.id] 67)) = w5 at *
        generalize w4.heap.size = r4 at *
        have HO5 := Lib.hid hO5
        clear hO5
        go_wp2_with (first
          | (go_at_call 42; (with_reducible refine (hist_stands g b L M ⟨k.src, k.id⟩ _ hs6).mono ?_); rintro e w6 ⟨v6, rfl, hO6, _, hb6⟩; obtain ⟨A6, c6, rfl, hc6, hr6⟩ := own_reads' hO6; have HO7 := Lib.hid (own_later HO5.out hb6); have hB6 := below_step hbw hb6; have hrg6 := hrg5.later hb6; have hs7 := hs6.later hb6)
          | (at_builtin; go_loud (refine Kd.R_append_rows kEvent (w0 := w) w.heap.size rfl (.tmp 24) (.tmp 27) 23 49 (.agg #[(.int .i64 0), (.int .i64 0), (.int .i64 0), (.int .i64 0), (.int .i64 0)]) 40 rfl Try.underlying23 info_event rfl (by decide) (by omega) _ (standsJ L js) (standsK L ⟨k.src, k.id⟩) _ _ _ (fun _ => True) (fun _ => False) rfl rfl ?aO ?aR (fun _ _ h => h) (fun _ h => h.elim) ?aF ?aB ?aS ?aL ?_; (case aO => exact HO7.out); (case aR => exact hr6); (case aF => exact (fun _ _ => trivial)); (case aB => exact hB6); (case aS => exact hB6.size); (case aL => have := standsJ_len L js; have := standsK_len L ⟨k.src, k.id⟩; omega); intro v7 w7 ho7 hb7 hg7 hat7)))
        go_roundw
        case rel =>
          have hrg7 := hrg6.grown hg7 (ne_ownBlock HO7.out hrg6.1 (fun c h => by simp [mapObj] at h)) (ne_ownBlock HO7.out hrg6.2.1 (fun c h => by cases h))
          refine ⟨js ++ [i], hrg7, hs7.grown hg7 (ne_ownBlock HO7.out hs7.cells (fun c h => by cases h)) (ne_ownBlock HO7.out hs7.map (fun c h => by simp [mapObj] at h)), ?_, hb7⟩
          rw [standsJ_snoc hix]
          exact ho7
        case measure =>
          have hrg7 := hrg6.grown hg7 (ne_ownBlock HO7.out hrg6.1 (fun c h => by simp [mapObj] at h)) (ne_ownBlock HO7.out hrg6.2.1 (fun c h => by cases h))
          rw [hrg7.met, Hmet.out, List.length_append, List.length_singleton]
          omega
end Go.Proofs.Ytdpkpibcjbllcaa
