/-
  Texts of one hand, laid together: EqSays, SaysA, SaysB, SaysC, SaysD, SaysP, SaysM, MergedP.
-/
import Derived.Test.YtfmojgdomficlaaZB
import Derived.Test.YtfmojgdomficlaaZL
import Derived.Test.YtfmojgdomficlaaZJ
import Derived.Test.YtfmojgdomficlaaZM
import Derived.Test.YtfmojgdomficlaaZK
set_option linter.unusedVariables false
set_option linter.unusedSimpArgs false
/-! Two slices are compared. (Printed by gen_eqwalk.py.) -/
namespace Go.Proofs.Ytfmojgdomficlaa
open Go.RowKit Go.Proofs.YtfmojgdomficlaaW.PrintWords

set_option maxRecDepth 100000 in
set_option maxHeartbeats 1000000 in
theorem same_events (l m : List Event) (A B : Option Addr) (c1 c2 : Nat) (w : World) (hl : Kd.C kEvent w A l.length l) (hm : Kd.C kEvent w B m.length m) :
    Calls Try.prog 53 #[.slice A l.length c1, .slice B m.length c2] w fun e w' => e = .returned (.bool (decide (l = m))) ∧ Below w.heap.size w w' := by
  have hll : l.length ≤ 9223372036854775807 := hl.2.1
  have hmm : m.length ≤ 9223372036854775807 := hm.2.1
  have Hl := Lib.hid hl
  have Hm := Lib.hid hm
  clear hl hm
  obtain ⟨r, hr⟩ : ∃ r, decide (l = m) = r := ⟨_, rfl⟩
  rw [hr]
  have HR := Lib.hid hr
  clear hr
  by_cases hlen : l.length = m.length
  · have Hlen := Lib.hid hlen
    have hlb : ((l.length : Int) != (m.length : Int)) = false := by simp [hlen]
    have hlb2 : ((l.length : Int) == (m.length : Int)) = true := by simp [hlen]
    have hlm : l.length ≤ m.length := by omega
    have hml : m.length ≤ l.length := by omega
    clear hlen
    go_enter Try.func53, Try.ntmps53
    go_wp2
    go_loopw [5] (fun i wr => ∃ k : Nat, k ≤ l.length ∧ i = .int .i64 k ∧ Below w.heap.size w wr ∧ Hid (l.take k = m.take k)) (fun i _ => l.length - (intOf i).toNat)
    case atStart => exact ⟨0, Nat.zero_le _, rfl, Below.refl _ _, Lib.hid rfl⟩
    case round =>
      obtain ⟨k, hk, rfl, hB, He⟩ := hrel
      by_cases hlt : k < l.length
      · obtain ⟨x, ad, _, htk, hget, rfl, c0, c1, c2, c3, c4⟩ := event_at (Kd.C_below Hl.out hB) k hlt
        obtain ⟨y, ad2, _, htk2, hget2, rfl, d0, d1, d2, d3, d4⟩ := event_at (Kd.C_below Hm.out hB) k (by omega)
        have hkm : k < m.length := by omega
        have Htk := Lib.hid htk
        have Htk2 := Lib.hid htk2
        have Hg := Lib.hid hget
        have Hg2 := Lib.hid hget2
        clear htk htk2 hget hget2
        cases he : eventEq ⟨x.src, x.id, ⟨x.body.at_, x.body.key, x.body.val⟩⟩ ⟨y.src, y.id, ⟨y.body.at_, y.body.key, y.body.val⟩⟩
        · have hxy : Hid (x ≠ y) := Lib.hid (of_decide_eq_false (p := x = y) he)
          go_wp2
          go_quiet (fail)
          go_wp2
          go_ret
          refine ⟨?_, pw_below_drewN hB _⟩
          rw [← HR.out]
          have : ¬ l = m := by
            intro e
            have h1 := Hg.out
            rw [e, Hg2.out] at h1
            exact hxy.out (Option.some.inj h1).symm
          simp [this]
        · have hxy : Hid (x = y) := Lib.hid (of_decide_eq_true (p := x = y) he)
          go_wp2
          go_quiet (fail)
          go_wp2
          exact ⟨⟨k + 1, by omega, by go_num, pw_below_drewN hB _, Lib.hid (by rw [Htk.out, Htk2.out, He.out, hxy.out])⟩, by simp [intOf]; omega⟩
      · have hkl : k = l.length := by omega
        have hlm' : l = m := by
          have h := He.out
          rw [hkl, List.take_length, Hlen.out, List.take_length] at h
          exact h
        have Hlm := Lib.hid hlm'
        clear hkl hlm'
        go_wp2
        go_ret
        refine ⟨?_, hB⟩
        rw [← HR.out]
        simp [Hlm.out]
  · have hlb : ((l.length : Int) != (m.length : Int)) = true := by simp; omega
    have hlb2 : ((l.length : Int) == (m.length : Int)) = false := by simp; omega
    have Hlen := Lib.hid hlen
    clear hlen
    go_enter Try.func53, Try.ntmps53
    go_wp2
    go_ret
    refine ⟨?_, Below.refl _ _⟩
    rw [← HR.out]
    have : ¬ l = m := fun e => Hlen.out (by rw [e])
    simp [this]

end Go.Proofs.Ytfmojgdomficlaa
set_option linter.unusedVariables false
set_option linter.unusedSimpArgs false
/-! What stands after news, as the reference reckons: before, counts. -/
namespace Go.Proofs.Ytfmojgdomficlaa
open Go.RowKit Go.Shelf Go.Proofs.YtfmojgdomficlaaW.PrintWords

def befB (x y : Event) : Bool := if (x.body.at_ != y.body.at_) = true then decide (x.body.at_ < y.body.at_) else if (x.src != y.src) = true then decide (x.src < y.src) else decide (x.id < y.id)
/-- The news of an event or of nothing. -/
def ofB (s i : Int) (n : News) : Bool := (n.do_ != 3) && ((n.src == s) && (n.id == i))
/-- One more of the news is looked at: the place and the version of the one that counts. -/
def cntStep (s i : Int) (acc : Option (Nat × Int)) (k : Nat) (n : News) : Option (Nat × Int) :=
  if ofB s i n && (match acc with | none => true | some (_, v) => decide (v < n.ver)) then some (k, n.ver) else acc
def cntFrom (s i : Int) : List News → Nat → Option (Nat × Int) → Option (Nat × Int)
  | [], _, acc => acc
  | n :: l, k, acc => cntFrom s i l (k + 1) (cntStep s i acc k n)
def bestI : Option (Nat × Int) → Int
  | none => -1
  | some (j, _) => j
def cntI (l : List News) (s i : Int) : Int := bestI (cntFrom s i l 0 none)
set_option maxRecDepth 100000 in
set_option maxHeartbeats 2000000 in
theorem r5_before (x y : Event) (w : World) : Calls Try.prog 97 #[.agg #[.int .i64 x.src, .int .i64 x.id, .int .i64 x.body.at_, .int .i64 x.body.key, .int .i64 x.body.val], .agg #[.int .i64 y.src, .int .i64 y.id, .int .i64 y.body.at_, .int .i64 y.body.key, .int .i64 y.body.val]] w fun e w' => e = .returned (.bool (befB x y)) ∧ Below w.heap.size w w' := by
  cases h1 : (x.body.at_ != y.body.at_)
  · cases h2 : (x.src != y.src)
    · have hb : befB x y = decide (x.id < y.id) := by simp only [befB, h1, h2]; rfl
      have Hb := Lib.hid hb
      clear hb
      go_enter Try.func97, Try.ntmps97
      go_wp2
      go_ret
      exact ⟨by rw [Hb.out]; rfl, (by repeat (first | exact Below.refl _ _ | assumption | apply below_alloc | apply below_drew1 | apply pw_below_drewN | refine below_step ?_ (by assumption)))⟩
    · have hb : befB x y = decide (x.src < y.src) := by simp only [befB, h1, h2]; rfl
      have Hb := Lib.hid hb
      clear hb
      go_enter Try.func97, Try.ntmps97
      go_wp2
      go_ret
      exact ⟨by rw [Hb.out]; rfl, (by repeat (first | exact Below.refl _ _ | assumption | apply below_alloc | apply below_drew1 | apply pw_below_drewN | refine below_step ?_ (by assumption)))⟩
  · have hb : befB x y = decide (x.body.at_ < y.body.at_) := by simp only [befB, h1]; rfl
    have Hb := Lib.hid hb
    clear hb
    go_enter Try.func97, Try.ntmps97
    go_wp2
    go_ret
    exact ⟨by rw [Hb.out]; rfl, (by repeat (first | exact Below.refl _ _ | assumption | apply below_alloc | apply below_drew1 | apply pw_below_drewN | refine below_step ?_ (by assumption)))⟩
/-- What has been found lies ahead. -/
def AccOk (l : List News) (k : Nat) : Option (Nat × Int) → Prop
  | none => True
  | some (j, v) => j < k ∧ ∃ m, l[j]? = some m ∧ v = m.ver
theorem AccOk.step {l : List News} {k : Nat} {acc : Option (Nat × Int)} (h : AccOk l k acc) {n : News} (hn : l[k]? = some n) (s i : Int) : AccOk l (k + 1) (cntStep s i acc k n) := by
  cases acc with
  | none =>
    simp only [cntStep]
    split
    · exact ⟨Nat.lt_succ_self k, n, hn, rfl⟩
    · trivial
  | some p =>
    obtain ⟨j, v⟩ := p
    simp only [cntStep]
    split
    · exact ⟨Nat.lt_succ_self k, n, hn, rfl⟩
    · exact ⟨Nat.lt_succ_of_lt h.1, h.2⟩
set_option maxRecDepth 100000 in
set_option maxHeartbeats 8000000 in
theorem r5_counts (l : List News) (A : Option Addr) (c : Nat) (s i : Int) (w : World) (hr : Kd.C kNews w A l.length l) (hc : l.length ≤ c) :
    Calls Try.prog 78 #[.slice A l.length c, .int .i64 s, .int .i64 i] w fun e w' => e = .returned (.int .i64 (cntI l s i)) ∧ Below w.heap.size w w' := by
  have hm : l.length ≤ 9223372036854775807 := hr.2.1
  have Hr := Lib.hid hr
  clear hr
  go_enter Try.func78, Try.ntmps78
  go_wp2
  go_loopw [7, 8] (fun b p wr => ∃ (k : Nat) (acc : Option (Nat × Int)), k ≤ l.length ∧ p = .int .i64 k ∧ b = .int .i64 (bestI acc) ∧ Below w.heap.size w wr ∧ Hid (AccOk l k acc) ∧ Hid (cntI l s i = bestI (cntFrom s i (l.drop k) k acc))) (fun _ p _ => l.length - (intOf p).toNat)
  case atStart => exact ⟨0, none, Nat.zero_le _, rfl, rfl, Below.refl _ _, Lib.hid trivial, Lib.hid rfl⟩
  case round =>
    obtain ⟨k, acc, hk, rfl, rfl, hB, Ha, Hq⟩ := hrel
    by_cases hlt : k < l.length
    · obtain ⟨n, ad, hd, htk, hget, rfl, e0, e1, e2, e3, e4, e5, e6⟩ := news_at Hr.out k hlt
      have Hst := Lib.hid (show cntI l s i = bestI (cntFrom s i (l.drop (k + 1)) (k + 1) (cntStep s i acc k n)) by rw [Hq.out, hd]; rfl)
      have Hok := Lib.hid (Ha.out.step hget s i)
      have E0 := Lib.hid e0
      have E1 := Lib.hid e1
      have E2 := Lib.hid e2
      have E3 := Lib.hid e3
      clear hd htk e0 e1 e2 e3 e4 e5 e6 Hq
      have hways : ((n.do_ != 3) = false ∧ ofB s i n = false) ∨ ((n.do_ != 3) = true ∧ (n.src == s) = false ∧ ofB s i n = false) ∨ ((n.do_ != 3) = true ∧ (n.src == s) = true ∧ (n.id == i) = false ∧ ofB s i n = false) ∨ ((n.do_ != 3) = true ∧ (n.src == s) = true ∧ (n.id == i) = true ∧ ofB s i n = true) := by
        unfold ofB
        cases (n.do_ != 3) <;> cases (n.src == s) <;> cases (n.id == i) <;> simp
      rcases hways with ⟨g1, hof⟩ | ⟨g1, g2, hof⟩ | ⟨g1, g2, g3, hof⟩ | ⟨g1, g2, g3, hof⟩
      iterate 3
        · have hcs : cntStep s i acc k n = acc := by unfold cntStep; rw [hof]; rfl
          rw [hcs] at Hst Hok
          clear hof hcs hget Ha
          obtain ⟨bb, hbb⟩ : ∃ bb, bb = bestI acc := ⟨_, rfl⟩
          rw [← hbb]
          have Hbb := Lib.hid hbb
          clear hbb
          go_upto_region 5 with fail
          refine wp_region_flow [.free 0, .free 1, .free 2, .free 3, .calm 4, .free 5, .free 6, .free 7, .free 8, .free 9, .free 10, .calm 11, .free 12, .free 13, .free 14, .free 15, .free 16, .free 17, .free 18, .free 19, .calm 20, .free 21, .free 22, .free 23, .free 24, .free 25, .free 26, .free 27, .free 28, .free 29, .free 30, .free 31, .calm 32, .free 33, .free 34, .free 35, .free 36, .calm 37, .free 38, .free 39, .free 40] (Below wr.heap.size wr) (Below wr.heap.size wr) (stable_below _ _ (Nat.le_refl _)) (fun _ h => h) (by kernel_rfl) (by kernel_rfl) (below_drew1 (Below.refl _ _)) ?_
          simp only [pickEnts, pickF, List.getElem?_cons_succ, List.getElem?_cons_zero, List.filterMap_cons, List.filterMap_nil, Option.map_some]
          repeat ((first | refine flow_calm (fun K hK => ?_) | refine flow_free (fun K hK => ?_) | refine float_calm (fun K hK => ?_) | refine float_free (fun K hK => ?_)); go_simp; first | (refine hK _ ?_; clear hK K) | (apply Exists.intro; (refine ⟨fun X => ?_, hK _ ?_⟩); (first | (intro hC; rfl) | rfl | (intro hC; have hbw := below_step hB hC.out; have x0 := cell_keep hbw E0.out; have x1 := cell_keep hbw E1.out; have x2 := cell_keep hbw E2.out; have x3 := cell_keep hbw E3.out; go_simp; done) | (intro hC; have hbw := below_step hB hC.out; have x0 := cell_keep hbw E0.out; have x1 := cell_keep hbw E1.out; have x2 := cell_keep hbw E2.out; have x3 := cell_keep hbw E3.out; go_simp; rfl)); clear hK K))
          refine flow_nil ?_
          intro w3 hX
          have hb3 := below_step hB hX.out
          clear hX
          go_wp2
          exact ⟨⟨k + 1, acc, by omega, by go_num, by rw [Hbb.out], hb3, Hok, Hst⟩, by simp [intOf]; omega⟩
      · cases acc with
        | none =>
          have hcs : cntStep s i none k n = some (k, n.ver) := by unfold cntStep; rw [hof]; rfl
          rw [hcs] at Hst Hok
          clear hof hcs hget Ha
          have hz : (bestI none : Int) = -1 := rfl
          rw [hz]
          clear hz
          go_upto_region 5 with fail
          refine wp_region_flow [.free 0, .free 1, .free 2, .free 3, .calm 4, .free 5, .free 6, .free 7, .free 8, .free 9, .free 10, .calm 11, .free 12, .free 13, .free 14, .free 15, .free 16, .free 17, .free 18, .free 19, .calm 20, .free 21, .free 22, .free 23, .free 24, .free 25, .free 26, .free 27, .free 28, .free 29, .free 30, .free 31, .calm 32, .free 33, .free 34, .free 35, .free 36, .calm 37, .free 38, .free 39, .free 40] (Below wr.heap.size wr) (Below wr.heap.size wr) (stable_below _ _ (Nat.le_refl _)) (fun _ h => h) (by kernel_rfl) (by kernel_rfl) (below_drew1 (Below.refl _ _)) ?_
          simp only [pickEnts, pickF, List.getElem?_cons_succ, List.getElem?_cons_zero, List.filterMap_cons, List.filterMap_nil, Option.map_some]
          repeat ((first | refine flow_calm (fun K hK => ?_) | refine flow_free (fun K hK => ?_) | refine float_calm (fun K hK => ?_) | refine float_free (fun K hK => ?_)); go_simp; first | (refine hK _ ?_; clear hK K) | (apply Exists.intro; (refine ⟨fun X => ?_, hK _ ?_⟩); (first | (intro hC; rfl) | rfl | (intro hC; have hbw := below_step hB hC.out; have x0 := cell_keep hbw E0.out; have x1 := cell_keep hbw E1.out; have x2 := cell_keep hbw E2.out; have x3 := cell_keep hbw E3.out; go_simp; done) | (intro hC; have hbw := below_step hB hC.out; have x0 := cell_keep hbw E0.out; have x1 := cell_keep hbw E1.out; have x2 := cell_keep hbw E2.out; have x3 := cell_keep hbw E3.out; go_simp; rfl)); clear hK K))
          refine flow_nil ?_
          intro w3 hX
          have hb3 := below_step hB hX.out
          clear hX
          go_wp2
          exact ⟨⟨k + 1, _, by omega, by go_num, rfl, hb3, Hok, Hst⟩, by simp [intOf]; omega⟩
        | some p =>
          obtain ⟨j, v⟩ := p
          obtain ⟨hjk, m, hm1, rfl⟩ := Ha.out
          have hjl : j < l.length := by omega
          obtain ⟨m', ad', -, -, hg', e', -, -, -, f3, -, -, -⟩ := news_at Hr.out j hjl
          cases e'
          rw [hm1] at hg'
          obtain rfl := Option.some.inj hg'
          have F3 := Lib.hid f3
          have hz : bestI (some (j, m.ver)) = (j : Int) := rfl
          have hj0 : decide ((j : Int) < 0) = false := decide_eq_false (by omega)
          rw [hz]
          clear hz f3 hm1 hg' Ha hget
          cases hv : decide (m.ver < n.ver)
          · have hcs : cntStep s i (some (j, m.ver)) k n = some (j, m.ver) := by
              unfold cntStep; simp only [hof, hv]; rfl
            rw [hcs] at Hst Hok
            clear hof hcs
            go_upto_region 5 with fail
            refine wp_region_flow [.free 0, .free 1, .free 2, .free 3, .calm 4, .free 5, .free 6, .free 7, .free 8, .free 9, .free 10, .calm 11, .free 12, .free 13, .free 14, .free 15, .free 16, .free 17, .free 18, .free 19, .calm 20, .free 21, .free 22, .free 23, .free 24, .free 25, .free 26, .free 27, .free 28, .free 29, .free 30, .free 31, .calm 32, .free 33, .free 34, .free 35, .free 36, .calm 37, .free 38, .free 39, .free 40] (Below wr.heap.size wr) (Below wr.heap.size wr) (stable_below _ _ (Nat.le_refl _)) (fun _ h => h) (by kernel_rfl) (by kernel_rfl) (below_drew1 (Below.refl _ _)) ?_
            simp only [pickEnts, pickF, List.getElem?_cons_succ, List.getElem?_cons_zero, List.filterMap_cons, List.filterMap_nil, Option.map_some]
            repeat ((first | refine flow_calm (fun K hK => ?_) | refine flow_free (fun K hK => ?_) | refine float_calm (fun K hK => ?_) | refine float_free (fun K hK => ?_)); go_simp; first | (refine hK _ ?_; clear hK K) | (apply Exists.intro; (refine ⟨fun X => ?_, hK _ ?_⟩); (first | (intro hC; rfl) | rfl | (intro hC; have hbw := below_step hB hC.out; have x0 := cell_keep hbw E0.out; have x1 := cell_keep hbw E1.out; have x2 := cell_keep hbw E2.out; have x3 := cell_keep hbw E3.out; have y3 := cell_keep hbw F3.out; go_simp; done) | (intro hC; have hbw := below_step hB hC.out; have x0 := cell_keep hbw E0.out; have x1 := cell_keep hbw E1.out; have x2 := cell_keep hbw E2.out; have x3 := cell_keep hbw E3.out; have y3 := cell_keep hbw F3.out; go_simp; rfl)); clear hK K))
            refine flow_nil ?_
            intro w3 hX
            have hb3 := below_step hB hX.out
            clear hX
            go_wp2
            exact ⟨⟨k + 1, some (j, m.ver), by omega, by go_num, rfl, hb3, Hok, Hst⟩, by simp [intOf]; omega⟩
          · have hcs : cntStep s i (some (j, m.ver)) k n = some (k, n.ver) := by
              unfold cntStep; simp only [hof, hv]; rfl
            rw [hcs] at Hst Hok
            clear hof hcs
            go_upto_region 5 with fail
            refine wp_region_flow [.free 0, .free 1, .free 2, .free 3, .calm 4, .free 5, .free 6, .free 7, .free 8, .free 9, .free 10, .calm 11, .free 12, .free 13, .free 14, .free 15, .free 16, .free 17, .free 18, .free 19, .calm 20, .free 21, .free 22, .free 23, .free 24, .free 25, .free 26, .free 27, .free 28, .free 29, .free 30, .free 31, .calm 32, .free 33, .free 34, .free 35, .free 36, .calm 37, .free 38, .free 39, .free 40] (Below wr.heap.size wr) (Below wr.heap.size wr) (stable_below _ _ (Nat.le_refl _)) (fun _ h => h) (by kernel_rfl) (by kernel_rfl) (below_drew1 (Below.refl _ _)) ?_
            simp only [pickEnts, pickF, List.getElem?_cons_succ, List.getElem?_cons_zero, List.filterMap_cons, List.filterMap_nil, Option.map_some]
            repeat ((first | refine flow_calm (fun K hK => ?_) | refine flow_free (fun K hK => ?_) | refine float_calm (fun K hK => ?_) | refine float_free (fun K hK => ?_)); go_simp; first | (refine hK _ ?_; clear hK K) | (apply Exists.intro; (refine ⟨fun X => ?_, hK _ ?_⟩); (first | (intro hC; rfl) | rfl | (intro hC; have hbw := below_step hB hC.out; have x0 := cell_keep hbw E0.out; have x1 := cell_keep hbw E1.out; have x2 := cell_keep hbw E2.out; have x3 := cell_keep hbw E3.out; have y3 := cell_keep hbw F3.out; go_simp; done) | (intro hC; have hbw := below_step hB hC.out; have x0 := cell_keep hbw E0.out; have x1 := cell_keep hbw E1.out; have x2 := cell_keep hbw E2.out; have x3 := cell_keep hbw E3.out; have y3 := cell_keep hbw F3.out; go_simp; rfl)); clear hK K))
            refine flow_nil ?_
            intro w3 hX
            have hb3 := below_step hB hX.out
            clear hX
            go_wp2
            exact ⟨⟨k + 1, some (k, n.ver), by omega, by go_num, rfl, hb3, Hok, Hst⟩, by simp [intOf]; omega⟩
    · have hkl : k = l.length := by omega
      have Hend := Lib.hid (show cntI l s i = bestI acc by rw [Hq.out, hkl, List.drop_of_length_le (Nat.le_refl _)]; rfl)
      obtain ⟨bb, hbb⟩ : ∃ bb, bb = bestI acc := ⟨_, rfl⟩
      rw [← hbb] at Hend ⊢
      clear hkl Hq Ha hbb
      go_wp2
      go_ret
      exact ⟨by rw [Hend.out]; rfl, hB⟩
end Go.Proofs.Ytfmojgdomficlaa
set_option linter.unusedVariables false
set_option linter.unusedSimpArgs false
/-! What stands after news, as the reference reckons: put, StandsOf. -/
namespace Go.Proofs.Ytfmojgdomficlaa
open Go.RowKit Go.Shelf Go.Proofs.YtfmojgdomficlaaW.PrintWords

def putR (x : Event) : List Event → List Event
  | [] => [x]
  | y :: l => if befB x y = true then x :: y :: l else y :: putR x l
theorem putR_len (x : Event) : ∀ l : List Event, (putR x l).length = l.length + 1
  | [] => rfl
  | y :: l => by
    unfold putR
    split
    · rfl
    · simp [putR_len x l]
/-- What has been put out, and what is left. -/
def putTo (x : Event) (is : Bool) (l : List Event) : List Event := if is = true then l else putR x l
theorem kEvent_mk' (w : World) (x : Event) : kEvent.K w x [.int .i64 x.src, .int .i64 x.id, .int .i64 x.body.at_, .int .i64 x.body.key, .int .i64 x.body.val] := kEvent.K_of_M (kEvent_mkM w 0 (fun _ => True) x)
set_option maxRecDepth 100000 in
set_option maxHeartbeats 8000000 in
theorem r5_put (l : List Event) (x : Event) (A : Option Addr) (c : Nat) (w : World) (hr : Kd.C kEvent w A l.length l) (hc : l.length ≤ c) (hb : (l.length + 1) * 40 ≤ 140737488355328) :
    Calls Try.prog 79 #[.slice A l.length c, .agg #[.int .i64 x.src, .int .i64 x.id, .int .i64 x.body.at_, .int .i64 x.body.key, .int .i64 x.body.val]] w fun e w' => ∃ v, e = .returned v ∧ Own kEvent 116 w' w.heap.size v (putR x l) ∧ Below w.heap.size w w' := by
  have hm : l.length ≤ 9223372036854775807 := hr.2.1
  have Hr := Lib.hid hr
  have Hpl := Lib.hid (putR_len x l)
  clear hr
  go_enter Try.func79, Try.ntmps79
  go_wp2
  have HC := Lib.hid (Cells.new w #[.int .i64 x.src, .int .i64 x.id, .int .i64 x.body.at_, .int .i64 x.body.key, .int .i64 x.body.val] 116)
  have HB := Lib.hid (below_alloc (Below.refl w.heap.size w) (.cells #[.int .i64 x.src, .int .i64 x.id, .int .i64 x.body.at_, .int .i64 x.body.key, .int .i64 x.body.val] 116))
  generalize w.alloc (.cells #[.int .i64 x.src, .int .i64 x.id, .int .i64 x.body.at_, .int .i64 x.body.key, .int .i64 x.body.val] 116) = w1 at HC HB ⊢
  go_loopw [5, 6, 7] (fun o b p wr => ∃ (k : Nat) (is : Bool) (out : List Event), k ≤ l.length ∧ p = .int .i64 k ∧ b = .bool is ∧ Below w1.heap.size w1 wr ∧ Hid (Own kEvent 116 wr w1.heap.size o out) ∧ Hid (putR x l = out ++ putTo x is (l.drop k))) (fun _ _ p _ => l.length - (intOf p).toNat)
  case atStart => exact ⟨0, false, [], Nat.zero_le _, rfl, rfl, Below.refl _ _, Lib.hid (Kd.R_nil _ _ _ _ _), Lib.hid rfl⟩
  case round =>
    obtain ⟨k, is, out, hk, rfl, rfl, hB, Ho, Hq⟩ := hrel
    have Hlen := Lib.hid (show out.length + (putTo x is (l.drop k)).length = l.length + 1 by rw [← List.length_append, ← Hq.out, Hpl.out])
    by_cases hlt : k < l.length
    · obtain ⟨y, ad, hd, htk, hget, rfl, e0, e1, e2, e3, e4⟩ := event_at Hr.out k hlt
      have Hd := Lib.hid hd
      have E0 := Lib.hid e0
      have E1 := Lib.hid e1
      have E2 := Lib.hid e2
      have E3 := Lib.hid e3
      have E4 := Lib.hid e4
      clear hd htk hget e0 e1 e2 e3 e4
      cases is
      · cases hbf : befB x y
        · have Hq2 := Lib.hid (show putR x l = (out ++ [y]) ++ putTo x false (l.drop (k + 1)) by rw [Hq.out, Hd.out]; simp [putTo, putR, hbf])
          have hln : out.length + 1 ≤ l.length + 1 := by have := Hlen.out; simp only [putTo, putR_len, Bool.false_eq_true, if_false] at this; omega
          have Hbf := Lib.hid hbf
          clear Hq Hlen
          go_upto_region 6 with fail
          refine wp_region_flow [.free 0, .free 1, .free 2, .calm 3, .free 4, .free 5, .free 6, .calm 7, .calm 8, .free 9] (Below wr.heap.size wr) (Below wr.heap.size wr) (stable_below _ _ (Nat.le_refl _)) (fun _ h => h) (by kernel_rfl) (by kernel_rfl) (below_drew1 (Below.refl _ _)) ?_
          simp only [pickEnts, pickF, List.getElem?_cons_succ, List.getElem?_cons_zero, List.filterMap_cons, List.filterMap_nil, Option.map_some]
          repeat ((first | refine flow_calm (fun K hK => ?_) | refine flow_free (fun K hK => ?_) | refine float_calm (fun K hK => ?_) | refine float_free (fun K hK => ?_)); go_simp; first | (refine hK _ ?_; clear hK K) | (apply Exists.intro; (refine ⟨fun X => ?_, hK _ ?_⟩); (first | (intro hC; rfl) | rfl | (intro hC; have hbw := below_step hB hC.out; have hbw0 := below_step HB.out hbw; have q := HC.out.later hbw; have q0 := q.cell 0 _ rfl; have q1 := q.cell 1 _ rfl; have q2 := q.cell 2 _ rfl; have q3 := q.cell 3 _ rfl; have q4 := q.cell 4 _ rfl; have x0 := cell_keep hbw0 E0.out; have x1 := cell_keep hbw0 E1.out; have x2 := cell_keep hbw0 E2.out; have x3 := cell_keep hbw0 E3.out; have x4 := cell_keep hbw0 E4.out; go_simp; done) | (intro hC; have hbw := below_step hB hC.out; have hbw0 := below_step HB.out hbw; have q := HC.out.later hbw; have q0 := q.cell 0 _ rfl; have q1 := q.cell 1 _ rfl; have q2 := q.cell 2 _ rfl; have q3 := q.cell 3 _ rfl; have q4 := q.cell 4 _ rfl; have x0 := cell_keep hbw0 E0.out; have x1 := cell_keep hbw0 E1.out; have x2 := cell_keep hbw0 E2.out; have x3 := cell_keep hbw0 E3.out; have x4 := cell_keep hbw0 E4.out; go_simp; rfl) | (intro hC; (with_reducible refine (r5_before x y _).mono ?_); rintro e w' ⟨rfl, hb⟩; exact ⟨rfl, hb⟩)); clear hK K))
          refine flow_nil ?_
          intro w3 hX
          have hb3 := below_step hB hX.out
          have HO3 := Kd.R_below Ho.out hX.out
          have hbw0 := below_step HB.out hb3
          have x0 := cell_keep hbw0 E0.out
          have x1 := cell_keep hbw0 E1.out
          have x2 := cell_keep hbw0 E2.out
          have x3 := cell_keep hbw0 E3.out
          have x4 := cell_keep hbw0 E4.out
          clear hX Ho hB
          go_wp2_with ((at_builtin; refine Kd.R_append_rows kEvent (w0 := w1) w1.heap.size rfl _ _ 90 116 (.agg #[.int .i64 0, .int .i64 0, .int .i64 0, .int .i64 0, .int .i64 0]) 40 rfl (by kernel_rfl) (by kernel_rfl) rfl (by decide) (by omega) _ (out) [y] _ 1 1 (fun _ => True) (fun _ => False) rfl rfl (Kd.R_below HO3 (below_alloc (Below.refl _ _) _)) (lit_row kEvent _ _ y [.int .i64 y.src, .int .i64 y.id, .int .i64 y.body.at_, .int .i64 y.body.key, .int .i64 y.body.val] 116 (Cells.new _ _ _) (kEvent_mk' _ _)) (fun x cs h => by obtain rfl := kEvent_open h; exact kEvent_mkM _ _ _ x) (fun _ h => h.elim) (fun _ _ => trivial) (below_alloc hb3 _) (below_alloc hb3 _).size (by omega) ?_; intro v1 wy r1 r2 r3 r4))
          exact ⟨⟨k + 1, false, out ++ [y], by omega, by go_num, rfl, r2, Lib.hid r1, Hq2⟩, by simp [intOf]; omega⟩
        · have Hq2 := Lib.hid (show putR x l = ((out ++ [x]) ++ [y]) ++ putTo x true (l.drop (k + 1)) by rw [Hq.out, Hd.out]; simp [putTo, putR, hbf])
          have hln : out.length + 2 ≤ l.length + 1 := by have := Hlen.out; simp only [putTo, putR_len, Bool.false_eq_true, if_false, List.length_drop] at this; omega
          have hln2 : (out ++ [x]).length + 1 ≤ l.length + 1 := by rw [List.length_append]; simpa using hln
          have Hbf := Lib.hid hbf
          clear Hq Hlen
          go_upto_region 6 with fail
          refine wp_region_flow [.free 0, .free 1, .free 2, .calm 3, .free 4, .free 5, .free 6, .calm 7, .calm 8, .free 9] (Below wr.heap.size wr) (Below wr.heap.size wr) (stable_below _ _ (Nat.le_refl _)) (fun _ h => h) (by kernel_rfl) (by kernel_rfl) (below_drew1 (Below.refl _ _)) ?_
          simp only [pickEnts, pickF, List.getElem?_cons_succ, List.getElem?_cons_zero, List.filterMap_cons, List.filterMap_nil, Option.map_some]
          repeat ((first | refine flow_calm (fun K hK => ?_) | refine flow_free (fun K hK => ?_) | refine float_calm (fun K hK => ?_) | refine float_free (fun K hK => ?_)); go_simp; first | (refine hK _ ?_; clear hK K) | (apply Exists.intro; (refine ⟨fun X => ?_, hK _ ?_⟩); (first | (intro hC; rfl) | rfl | (intro hC; have hbw := below_step hB hC.out; have hbw0 := below_step HB.out hbw; have q := HC.out.later hbw; have q0 := q.cell 0 _ rfl; have q1 := q.cell 1 _ rfl; have q2 := q.cell 2 _ rfl; have q3 := q.cell 3 _ rfl; have q4 := q.cell 4 _ rfl; have x0 := cell_keep hbw0 E0.out; have x1 := cell_keep hbw0 E1.out; have x2 := cell_keep hbw0 E2.out; have x3 := cell_keep hbw0 E3.out; have x4 := cell_keep hbw0 E4.out; go_simp; done) | (intro hC; have hbw := below_step hB hC.out; have hbw0 := below_step HB.out hbw; have q := HC.out.later hbw; have q0 := q.cell 0 _ rfl; have q1 := q.cell 1 _ rfl; have q2 := q.cell 2 _ rfl; have q3 := q.cell 3 _ rfl; have q4 := q.cell 4 _ rfl; have x0 := cell_keep hbw0 E0.out; have x1 := cell_keep hbw0 E1.out; have x2 := cell_keep hbw0 E2.out; have x3 := cell_keep hbw0 E3.out; have x4 := cell_keep hbw0 E4.out; go_simp; rfl) | (intro hC; (with_reducible refine (r5_before x y _).mono ?_); rintro e w' ⟨rfl, hb⟩; exact ⟨rfl, hb⟩)); clear hK K))
          refine flow_nil ?_
          intro w3 hX
          have hb3 := below_step hB hX.out
          have HO3 := Kd.R_below Ho.out hX.out
          have hbw0 := below_step HB.out hb3
          have x0 := cell_keep hbw0 E0.out
          have x1 := cell_keep hbw0 E1.out
          have x2 := cell_keep hbw0 E2.out
          have x3 := cell_keep hbw0 E3.out
          have x4 := cell_keep hbw0 E4.out
          clear hX Ho hB
          have q := HC.out.later hb3
          have q0 := q.cell 0 _ rfl
          have q1 := q.cell 1 _ rfl
          have q2 := q.cell 2 _ rfl
          have q3 := q.cell 3 _ rfl
          have q4 := q.cell 4 _ rfl
          go_wp2_with (first
            | (at_builtin; (refine Kd.R_append_rows kEvent (w0 := w1) w1.heap.size rfl _ _ 90 116 (.agg #[.int .i64 0, .int .i64 0, .int .i64 0, .int .i64 0, .int .i64 0]) 40 rfl (by kernel_rfl) (by kernel_rfl) rfl (by decide) (by omega) _ (out) [x] _ 1 1 (fun _ => True) (fun _ => False) rfl rfl (Kd.R_below HO3 (below_alloc (Below.refl _ _) _)) (lit_row kEvent _ _ x [.int .i64 x.src, .int .i64 x.id, .int .i64 x.body.at_, .int .i64 x.body.key, .int .i64 x.body.val] 116 (Cells.new _ _ _) (kEvent_mk' _ _)) (fun x cs h => by obtain rfl := kEvent_open h; exact kEvent_mkM _ _ _ x) (fun _ h => h.elim) (fun _ _ => trivial) (below_alloc hb3 _) (below_alloc hb3 _).size (by omega) ?_; intro v1 wy r1 r2 r3 r4; have z0 := cell_keep (below_step HB.out r2) E0.out; have z1 := cell_keep (below_step HB.out r2) E1.out; have z2 := cell_keep (below_step HB.out r2) E2.out; have z3 := cell_keep (below_step HB.out r2) E3.out; have z4 := cell_keep (below_step HB.out r2) E4.out))
            | (at_builtin; refine Kd.R_append_rows kEvent (w0 := w1) w1.heap.size rfl _ _ 90 116 (.agg #[.int .i64 0, .int .i64 0, .int .i64 0, .int .i64 0, .int .i64 0]) 40 rfl (by kernel_rfl) (by kernel_rfl) rfl (by decide) (by omega) _ (out ++ [x]) [y] _ 1 1 (fun _ => True) (fun _ => False) rfl rfl (Kd.R_below r1 (below_alloc (Below.refl _ _) _)) (lit_row kEvent _ _ y [.int .i64 y.src, .int .i64 y.id, .int .i64 y.body.at_, .int .i64 y.body.key, .int .i64 y.body.val] 116 (Cells.new _ _ _) (kEvent_mk' _ _)) (fun x cs h => by obtain rfl := kEvent_open h; exact kEvent_mkM _ _ _ x) (fun _ h => h.elim) (fun _ _ => trivial) (below_alloc r2 _) (below_alloc r2 _).size (by omega) ?_; intro v2 wz s1 s2 r3 r4))
          exact ⟨⟨k + 1, true, (out ++ [x]) ++ [y], by omega, by go_num, rfl, s2, Lib.hid s1, Hq2⟩, by simp [intOf]; omega⟩
      · have Hq2 := Lib.hid (show putR x l = (out ++ [y]) ++ putTo x true (l.drop (k + 1)) by rw [Hq.out, Hd.out]; simp [putTo])
        have hln : out.length + 1 ≤ l.length + 1 := by have := Hlen.out; simp only [putTo, if_true, List.length_drop] at this; omega
        clear Hq Hlen
        go_upto_region 6 with fail
        refine wp_region_flow [.free 0, .free 1, .free 2, .calm 3, .free 4, .free 5, .free 6, .calm 7, .calm 8, .free 9] (Below wr.heap.size wr) (Below wr.heap.size wr) (stable_below _ _ (Nat.le_refl _)) (fun _ h => h) (by kernel_rfl) (by kernel_rfl) (below_drew1 (Below.refl _ _)) ?_
        simp only [pickEnts, pickF, List.getElem?_cons_succ, List.getElem?_cons_zero, List.filterMap_cons, List.filterMap_nil, Option.map_some]
        repeat ((first | refine flow_calm (fun K hK => ?_) | refine flow_free (fun K hK => ?_) | refine float_calm (fun K hK => ?_) | refine float_free (fun K hK => ?_)); go_simp; first | (refine hK _ ?_; clear hK K) | (apply Exists.intro; (refine ⟨fun X => ?_, hK _ ?_⟩); (first | (intro hC; rfl) | rfl | (intro hC; have hbw := below_step hB hC.out; have hbw0 := below_step HB.out hbw; have q := HC.out.later hbw; have q0 := q.cell 0 _ rfl; have q1 := q.cell 1 _ rfl; have q2 := q.cell 2 _ rfl; have q3 := q.cell 3 _ rfl; have q4 := q.cell 4 _ rfl; have x0 := cell_keep hbw0 E0.out; have x1 := cell_keep hbw0 E1.out; have x2 := cell_keep hbw0 E2.out; have x3 := cell_keep hbw0 E3.out; have x4 := cell_keep hbw0 E4.out; go_simp; done) | (intro hC; have hbw := below_step hB hC.out; have hbw0 := below_step HB.out hbw; have q := HC.out.later hbw; have q0 := q.cell 0 _ rfl; have q1 := q.cell 1 _ rfl; have q2 := q.cell 2 _ rfl; have q3 := q.cell 3 _ rfl; have q4 := q.cell 4 _ rfl; have x0 := cell_keep hbw0 E0.out; have x1 := cell_keep hbw0 E1.out; have x2 := cell_keep hbw0 E2.out; have x3 := cell_keep hbw0 E3.out; have x4 := cell_keep hbw0 E4.out; go_simp; rfl) | (intro hC; (with_reducible refine (r5_before x y _).mono ?_); rintro e w' ⟨rfl, hb⟩; exact ⟨rfl, hb⟩)); clear hK K))
        refine flow_nil ?_
        intro w3 hX
        have hb3 := below_step hB hX.out
        have HO3 := Kd.R_below Ho.out hX.out
        have hbw0 := below_step HB.out hb3
        have x0 := cell_keep hbw0 E0.out
        have x1 := cell_keep hbw0 E1.out
        have x2 := cell_keep hbw0 E2.out
        have x3 := cell_keep hbw0 E3.out
        have x4 := cell_keep hbw0 E4.out
        clear hX Ho hB
        go_wp2_with ((at_builtin; refine Kd.R_append_rows kEvent (w0 := w1) w1.heap.size rfl _ _ 90 116 (.agg #[.int .i64 0, .int .i64 0, .int .i64 0, .int .i64 0, .int .i64 0]) 40 rfl (by kernel_rfl) (by kernel_rfl) rfl (by decide) (by omega) _ (out) [y] _ 1 1 (fun _ => True) (fun _ => False) rfl rfl (Kd.R_below HO3 (below_alloc (Below.refl _ _) _)) (lit_row kEvent _ _ y [.int .i64 y.src, .int .i64 y.id, .int .i64 y.body.at_, .int .i64 y.body.key, .int .i64 y.body.val] 116 (Cells.new _ _ _) (kEvent_mk' _ _)) (fun x cs h => by obtain rfl := kEvent_open h; exact kEvent_mkM _ _ _ x) (fun _ h => h.elim) (fun _ _ => trivial) (below_alloc hb3 _) (below_alloc hb3 _).size (by omega) ?_; intro v1 wy r1 r2 r3 r4))
        exact ⟨⟨k + 1, true, out ++ [y], by omega, by go_num, rfl, r2, Lib.hid r1, Hq2⟩, by simp [intOf]; omega⟩
    · have hkl : k = l.length := by omega
      have hdr : l.drop k = [] := List.drop_of_length_le (by omega)
      rw [hdr] at Hq Hlen
      clear hkl hdr
      cases is
      · have Hq2 := Lib.hid (show putR x l = out ++ [x] from Hq.out)
        have hln : out.length + 1 ≤ l.length + 1 := by have := Hlen.out; simp only [putTo, putR_len, Bool.false_eq_true, if_false, List.length_nil] at this; omega
        have HO3 := Ho.out
        have hb3 := hB
        have q := HC.out.later hb3
        have q0 := q.cell 0 _ rfl
        have q1 := q.cell 1 _ rfl
        have q2 := q.cell 2 _ rfl
        have q3 := q.cell 3 _ rfl
        have q4 := q.cell 4 _ rfl
        clear Hq Hlen Ho hB
        go_wp2_with ((at_builtin; refine Kd.R_append_rows kEvent (w0 := w1) w1.heap.size rfl _ _ 90 116 (.agg #[.int .i64 0, .int .i64 0, .int .i64 0, .int .i64 0, .int .i64 0]) 40 rfl (by kernel_rfl) (by kernel_rfl) rfl (by decide) (by omega) _ (out) [x] _ 1 1 (fun _ => True) (fun _ => False) rfl rfl (Kd.R_below HO3 (below_alloc (Below.refl _ _) _)) (lit_row kEvent _ _ x [.int .i64 x.src, .int .i64 x.id, .int .i64 x.body.at_, .int .i64 x.body.key, .int .i64 x.body.val] 116 (Cells.new _ _ _) (kEvent_mk' _ _)) (fun x cs h => by obtain rfl := kEvent_open h; exact kEvent_mkM _ _ _ x) (fun _ h => h.elim) (fun _ _ => trivial) (below_alloc hb3 _) (below_alloc hb3 _).size (by omega) ?_; intro v1 wy r1 r2 r3 r4))
        go_ret
        exact ⟨_, rfl, by rw [Hq2.out]; exact Kd.R_lower r1 HB.out.size, below_step HB.out r2⟩
      · have Hq2 := Lib.hid (show putR x l = out by rw [Hq.out]; simp [putTo])
        clear Hq Hlen
        go_wp2
        go_ret
        exact ⟨_, rfl, by rw [Hq2.out]; exact Kd.R_lower Ho.out HB.out.size, below_step HB.out hB⟩
end Go.Proofs.Ytfmojgdomficlaa
set_option linter.unusedVariables false
set_option linter.unusedSimpArgs false
/-! What stands after news, as the reference reckons: StandsOf, MarksOf; says. -/
namespace Go.Proofs.Ytfmojgdomficlaa
open Go.RowKit Go.Shelf Go.Proofs.YtfmojgdomficlaaW.PrintWords

def evOf (n : News) : Event := ⟨n.src, n.id, n.body⟩
def standsStep (l : List News) (acc : List Event) (k : Nat) (n : News) : List Event := if ((n.do_ == 1) && (cntI l n.src n.id == (k : Int))) = true then putR (evOf n) acc else acc
def standsFrom (l : List News) : List News → Nat → List Event → List Event
  | [], _, acc => acc
  | n :: r, k, acc => standsFrom l r (k + 1) (standsStep l acc k n)
def standsR (l : List News) : List Event := standsFrom l l 0 []
theorem standsStep_len (l : List News) (acc : List Event) (k : Nat) (n : News) (h : acc.length ≤ k) : (standsStep l acc k n).length ≤ k + 1 := by
  unfold standsStep
  split
  · rw [putR_len]; omega
  · omega
set_option maxRecDepth 100000 in
set_option maxHeartbeats 8000000 in
theorem r5_StandsOf (l : List News) (A : Option Addr) (c : Nat) (w : World) (hr : Kd.C kNews w A l.length l) (hc : l.length ≤ c) (hb : (l.length + 1) * 56 ≤ 140737488355328) :
    Calls Try.prog 54 #[.slice A l.length c] w fun e w' => ∃ v, e = .returned v ∧ Own kEvent 116 w' w.heap.size v (standsR l) ∧ Below w.heap.size w w' := by
  have hm : l.length ≤ 9223372036854775807 := hr.2.1
  have Hr := Lib.hid hr
  clear hr
  go_enter Try.func54, Try.ntmps54
  go_wp2
  go_loopw [3, 4] (fun o p wr => ∃ (k : Nat) (acc : List Event), k ≤ l.length ∧ p = .int .i64 k ∧ acc.length ≤ k ∧ Below w.heap.size w wr ∧ Hid (Own kEvent 116 wr w.heap.size o acc) ∧ Hid (standsR l = standsFrom l (l.drop k) k acc)) (fun _ p _ => l.length - (intOf p).toNat)
  case atStart => exact ⟨0, [], Nat.zero_le _, rfl, Nat.zero_le _, Below.refl _ _, Lib.hid (Kd.R_nil _ _ _ _ _), Lib.hid rfl⟩
  case round =>
    obtain ⟨k, acc, hk, rfl, hal, hB, Ho, Hq⟩ := hrel
    by_cases hlt : k < l.length
    · obtain ⟨n, ad, hd, htk, hget, rfl, e0, e1, e2, e3, e4, e5, e6⟩ := news_at Hr.out k hlt
      have Hst := Lib.hid (show standsR l = standsFrom l (l.drop (k + 1)) (k + 1) (standsStep l acc k n) by rw [Hq.out, hd]; rfl)
      have hln := standsStep_len l acc k n hal
      have E0 := Lib.hid e0
      have E1 := Lib.hid e1
      have E2 := Lib.hid e2
      have E4 := Lib.hid e4
      have E5 := Lib.hid e5
      have E6 := Lib.hid e6
      clear hd htk hget e0 e1 e2 e3 e4 e5 e6 Hq
      generalize hcc : cntI l n.src n.id = cc
      have Hcc := Lib.hid hcc
      have hss : standsStep l acc k n = if ((n.do_ == 1) && (cc == (k : Int))) = true then putR (evOf n) acc else acc := by rw [← hcc]; rfl
      clear hcc
      have hways : ((n.do_ == 1) = false ∧ standsStep l acc k n = acc) ∨ ((n.do_ == 1) = true ∧ (cc == (k : Int)) = false ∧ standsStep l acc k n = acc) ∨ ((n.do_ == 1) = true ∧ (cc == (k : Int)) = true ∧ standsStep l acc k n = putR (evOf n) acc) := by
        rw [hss]
        cases (n.do_ == 1) <;> cases (cc == (k : Int)) <;> simp
      clear hss
      rcases hways with ⟨g1, hs⟩ | ⟨g1, g2, hs⟩ | ⟨g1, g2, hs⟩
      iterate 2
        · rw [hs] at Hst hln
          clear hs
          go_upto_region 5 with fail
          refine wp_region_flow [.free 0, .free 1, .free 2, .free 3, .calm 4, .free 5, .free 6, .free 7, .free 8, .free 9, .free 10, .free 11, .calm 12, .free 13, .free 14, .free 15, .free 16, .calm 17, .calm 18, .free 19, .free 20, .free 21] (Below wr.heap.size wr) (Below wr.heap.size wr) (stable_below _ _ (Nat.le_refl _)) (fun _ h => h) (by kernel_rfl) (by kernel_rfl) (below_drew1 (Below.refl _ _)) ?_
          simp only [pickEnts, pickF, List.getElem?_cons_succ, List.getElem?_cons_zero, List.filterMap_cons, List.filterMap_nil, Option.map_some]
          repeat ((first | refine flow_calm (fun K hK => ?_) | refine flow_free (fun K hK => ?_) | refine float_calm (fun K hK => ?_) | refine float_free (fun K hK => ?_)); go_simp; first | (refine hK _ ?_; clear hK K) | (apply Exists.intro; (refine ⟨fun X => ?_, hK _ ?_⟩); (first | (intro hC; rfl) | rfl | (intro hC; have hbw := below_step hB hC.out; have x0 := cell_keep hbw E0.out; have x1 := cell_keep hbw E1.out; have x2 := cell_keep hbw E2.out; go_simp; done) | (intro hC; have hbw := below_step hB hC.out; have x0 := cell_keep hbw E0.out; have x1 := cell_keep hbw E1.out; have x2 := cell_keep hbw E2.out; go_simp; rfl) | (intro hC; (with_reducible refine (r5_counts l _ c _ _ _ (Kd.C_below Hr.out (below_step hB hC.out)) hc).mono ?_); rintro e w' ⟨rfl, hb⟩; rw [Hcc.out]; exact ⟨rfl, hb⟩)); clear hK K))
          refine flow_nil ?_
          intro w3 hX
          have hb3 := below_step hB hX.out
          have Ho3 := Lib.hid (Kd.R_below Ho.out hX.out)
          clear hX Ho
          go_wp2
          exact ⟨⟨k + 1, acc, by omega, by go_num, hln, hb3, Ho3, Hst⟩, by simp [intOf]; omega⟩
      · rw [hs] at Hst hln
        clear hs
        go_upto_region 5 with fail
        refine wp_region_flow [.free 0, .free 1, .free 2, .free 3, .calm 4, .free 5, .free 6, .free 7, .free 8, .free 9, .free 10, .free 11, .calm 12, .free 13, .free 14, .free 15, .free 16, .calm 17, .calm 18, .free 19, .free 20, .free 21] (Below wr.heap.size wr) (Below wr.heap.size wr) (stable_below _ _ (Nat.le_refl _)) (fun _ h => h) (by kernel_rfl) (by kernel_rfl) (below_drew1 (Below.refl _ _)) ?_
        simp only [pickEnts, pickF, List.getElem?_cons_succ, List.getElem?_cons_zero, List.filterMap_cons, List.filterMap_nil, Option.map_some]
        repeat ((first | refine flow_calm (fun K hK => ?_) | refine flow_free (fun K hK => ?_) | refine float_calm (fun K hK => ?_) | refine float_free (fun K hK => ?_)); go_simp; first | (refine hK _ ?_; clear hK K) | (apply Exists.intro; (refine ⟨fun X => ?_, hK _ ?_⟩); (first | (intro hC; rfl) | rfl | (intro hC; have hbw := below_step hB hC.out; have x0 := cell_keep hbw E0.out; have x1 := cell_keep hbw E1.out; have x2 := cell_keep hbw E2.out; go_simp; done) | (intro hC; have hbw := below_step hB hC.out; have x0 := cell_keep hbw E0.out; have x1 := cell_keep hbw E1.out; have x2 := cell_keep hbw E2.out; go_simp; rfl) | (intro hC; (with_reducible refine (r5_counts l _ c _ _ _ (Kd.C_below Hr.out (below_step hB hC.out)) hc).mono ?_); rintro e w' ⟨rfl, hb⟩; rw [Hcc.out]; exact ⟨rfl, hb⟩)); clear hK K))
        refine flow_nil ?_
        intro w3 hX
        have hb3 := below_step hB hX.out
        have Ho3 := Lib.hid (Kd.R_below Ho.out hX.out)
        clear hX Ho hB
        obtain ⟨Ao, co, he, hoc, hor⟩ := own_reads' Ho3.out
        subst he
        go_upto_region 6 with fail
        refine wp_region_flow [.free 0, .free 1, .free 2, .free 3, .free 4, .calm 5, .free 6, .free 7, .free 8, .free 9, .calm 10, .free 11, .free 12, .free 13, .free 14, .calm 15, .free 16, .group [17], .free 18] (Below w3.heap.size w3) (Below w3.heap.size w3) (stable_below _ _ (Nat.le_refl _)) (fun _ h => h) (by kernel_rfl) (by kernel_rfl) (below_drew1 (Below.refl _ _)) ?_
        simp only [pickEnts, pickF, List.getElem?_cons_succ, List.getElem?_cons_zero, List.filterMap_cons, List.filterMap_nil, Option.map_some]
        repeat ((first | refine flow_calm (fun K hK => ?_) | refine flow_free (fun K hK => ?_) | refine float_calm (fun K hK => ?_) | refine float_free (fun K hK => ?_)); go_simp; first | (refine hK _ ?_; clear hK K) | (apply Exists.intro; (refine ⟨fun X => ?_, hK _ ?_⟩); (first | (intro hC; rfl) | rfl | (intro hC; have hbw := below_step hb3 hC.out; have x0 := cell_keep hbw E0.out; have x1 := cell_keep hbw E1.out; have x2 := cell_keep hbw E2.out; have x4 := cell_keep hbw E4.out; have x5 := cell_keep hbw E5.out; have x6 := cell_keep hbw E6.out; go_simp; done) | (intro hC; have hbw := below_step hb3 hC.out; have x0 := cell_keep hbw E0.out; have x1 := cell_keep hbw E1.out; have x2 := cell_keep hbw E2.out; have x4 := cell_keep hbw E4.out; have x5 := cell_keep hbw E5.out; have x6 := cell_keep hbw E6.out; go_simp; rfl)); clear hK K))
        refine flow_one (fun v X => Own kEvent 116 X w3.heap.size v (putR (evOf n) acc)) (fun _ _ _ h hb => Kd.R_below h hb) ⟨rfl, fun X hX => ?_⟩ (fun v X0 hX0 hV0 => ?_)
        · go_simp
          refine ⟨Below.refl _ _, (r5_put acc (evOf n) Ao co X (Kd.C_below hor hX.out) hoc (by omega)).mono ?_⟩
          rintro e w' ⟨v, rfl, h1, h2⟩
          exact ⟨v, rfl, h2, Kd.R_lower h1 hX.out.size⟩
        clear hX0 hV0
        repeat ((first | refine flow_calm (fun K hK => ?_) | refine flow_free (fun K hK => ?_) | refine float_calm (fun K hK => ?_) | refine float_free (fun K hK => ?_)); go_simp; first | (refine hK _ ?_; clear hK K) | (apply Exists.intro; (refine ⟨fun X => ?_, hK _ ?_⟩); (first | (intro hC; rfl) | rfl | (intro hC; skip; go_simp; done) | (intro hC; skip; go_simp; rfl)); clear hK K))
        refine flow_nil ?_
        intro w4 hX
        obtain ⟨hb4, ho4⟩ := hX.out
        have hb4' := below_step hb3 hb4
        have Ho4 := Lib.hid (Kd.R_lower ho4 hb3.size)
        clear hX ho4 hb4
        go_wp2
        exact ⟨⟨k + 1, _, by omega, by go_num, hln, hb4', Ho4, Hst⟩, by simp [intOf]; omega⟩
    · have hkl : k = l.length := by omega
      have Hend := Lib.hid (show standsR l = acc by rw [Hq.out, hkl, List.drop_of_length_le (Nat.le_refl _)]; rfl)
      clear hkl Hq
      go_wp2
      go_ret
      exact ⟨_, rfl, by rw [Hend.out]; exact Ho.out, hB⟩
end Go.Proofs.Ytfmojgdomficlaa
set_option linter.unusedVariables false
set_option linter.unusedSimpArgs false
/-! The marks, as the reference reckons; what two lists of news say. -/
namespace Go.Proofs.Ytfmojgdomficlaa
open Go.RowKit Go.Shelf Go.Proofs.YtfmojgdomficlaaW.PrintWords

def markStep (M : List Int) (n : News) : List Int := if n.do_ = 3 then M.set n.src.toNat (if rdOf 0 M n.src < n.body.at_ then n.body.at_ else rdOf 0 M n.src) else M
def marksR (l : List News) : List Int := l.foldl markStep [0, 0, 0, 0]
theorem markStep_len (M : List Int) (n : News) : (markStep M n).length = M.length := by unfold markStep; split <;> simp
theorem marksR_len (l : List News) : (marksR l).length = 4 := by
  have : ∀ (l : List News) (M : List Int), (l.foldl markStep M).length = M.length := fun l => by
    induction l with
    | nil => intro M; rfl
    | cons n l ih => intro M; rw [List.foldl_cons, ih, markStep_len]
  exact this l _
theorem marksR_snoc (l : List News) (n : News) : marksR (l ++ [n]) = markStep (marksR l) n := by simp [marksR, List.foldl_append]
set_option maxRecDepth 100000 in
set_option maxHeartbeats 8000000 in
theorem r5_MarksOf (l : List News) (A : Option Addr) (c : Nat) (w : World) (hr : Kd.C kNews w A l.length l) (hc : l.length ≤ c) (hsrc : ∀ n ∈ l, 0 ≤ n.src ∧ n.src < 4) :
    Calls Try.prog 55 #[.slice A l.length c, .int .i64 4] w fun e w' => ∃ v, e = .returned v ∧ Own (Kd.int .i64) 3 w' w.heap.size v (marksR l) ∧ Below w.heap.size w w' := by
  have hm : l.length ≤ 9223372036854775807 := hr.2.1
  have Hr := Lib.hid hr
  have Hsrc := Lib.hid hsrc
  clear hr hsrc
  go_enter Try.func55, Try.ntmps55
  go_wp2_with (refine Kd.R_make (Kd.int .i64) (w0 := w) w.heap.size 3 rfl (N := 8) rfl 31 _ _ rfl (4 : Int) rfl rfl (by kernel_rfl) (.int .i64 0) 8 (by kernel_rfl) rfl (by decide) (by omega) 0 (ok := fun _ => True) (okp := fun _ => False) rfl (fun _ h => h.elim) trivial (by omega) (by omega) (Below.refl _ _) (Nat.le_refl _) ?_; intro v1 w1 hO1 hb1 hg1 hat1)
  obtain ⟨g, cg, rfl⟩ : ∃ g c, v1 = .slice (some ⟨g, 0, none⟩) 4 c := by
    obtain ⟨g, cap, hv, _⟩ := Kd.R_form hO1 (by simp)
    exact ⟨g, cap, by rw [hv]; simp⟩
  have hgb : w.heap.size ≤ g := Kd.R_base hO1 g rfl
  have hm0 : marksR (l.take 0) = List.replicate (4 : Int).toNat 0 := rfl
  rw [← hm0] at hO1
  clear hm0 hg1 hat1
  go_loopw [6] (fun i wr => ∃ k : Nat, k ≤ l.length ∧ i = .int .i64 k ∧ Own (Kd.int .i64) 3 wr w.heap.size (.slice (some ⟨g, 0, none⟩) 4 cg) (marksR (l.take k)) ∧ Below w.heap.size w wr) (fun i _ => l.length - (intOf i).toNat)
  case atStart => exact ⟨0, Nat.zero_le _, rfl, hO1, hb1⟩
  case round =>
    obtain ⟨k, hk, rfl, hO, hB⟩ := hrel
    by_cases hlt : k < l.length
    · obtain ⟨n, ad, hd, htk, hget, rfl, c0, c1, c2, c3, c4, c5, c6⟩ := news_at (Kd.C_below Hr.out hB) k hlt
      have hn := Hsrc.out n (List.mem_of_getElem? hget)
      obtain ⟨hn0, hns⟩ := hn
      have hmk0 := marksR_snoc (l.take k) n
      rw [← htk] at hmk0
      by_cases h3 : n.do_ = 3
      · have hb3 : (n.do_ == 3) = true := by simpa using h3
        have hmk : marksR (l.take (k + 1)) = (marksR (l.take k)).set n.src.toNat (if rdOf 0 (marksR (l.take k)) n.src < n.body.at_ then n.body.at_ else rdOf 0 (marksR (l.take k)) n.src) := by rw [hmk0, markStep, if_pos h3]
        have hml : (marksR (l.take k)).length = 4 := marksR_len _
        have hO' : Own (Kd.int .i64) 3 wr w.heap.size (.slice (some ⟨g, 0, none⟩) (marksR (l.take k)).length cg) (marksR (l.take k)) := by rw [hml]; exact hO
        obtain ⟨gc, gf⟩ := Kd.R_cell (α := Int) 0 hO' n.src hn0 (by rw [hml]; omega)
        have Hmk := Lib.hid hmk
        have HO := Lib.hid hO'
        have Hml := Lib.hid hml
        have Hgb := Lib.hid hgb
        clear hmk hmk0 hO hO' hml h3 hd htk hget hgb
        generalize rdOf 0 (marksR (l.take k)) n.src = old at *
        have gc' : wr.cell? ⟨g, n.src.toNat, none⟩ = some (.int .i64 old) := gc
        go_upto_region 6 with (fail)
        refine wp_region_quiet_tail 22 (fun W => W = wr.drew) (by kernel_rfl) (by kernel_rfl) rfl ?_
        go_simp
        repeat (refine wpQuiet_step (fun K hK => ?_); go_simp; first | (refine hK _ ?_; clear hK K) | (apply Exists.intro; refine ⟨fun W hC => ?_, hK _ ?_⟩; (first | rfl | (subst hC; go_simp; rfl)); clear hK K))
        refine wpQuiet_nil ?_
        try (intro W hC; subst hC)
        go_wp2
        obtain ⟨hput, hgr⟩ := Kd.R_put HO.out n.src (if old < n.body.at_ then n.body.at_ else old)
        have hput' : Own (Kd.int .i64) 3 (wr.setCell ⟨g, n.src.toNat, none⟩ (.int .i64 (if old < n.body.at_ then n.body.at_ else old))) w.heap.size (.slice (some ⟨g, 0, none⟩) 4 cg) ((marksR (l.take k)).set n.src.toNat (if old < n.body.at_ then n.body.at_ else old)) := by have e := hput; rw [Hml.out] at e; exact e
        exact ⟨⟨k + 1, by omega, by go_num, by rw [Hmk.out]; exact Kd.R_drew hput', below_drew1 (hB.grown hgr hB.size (fun j hj => by cases hj; exact Hgb.out))⟩, by simp [intOf]; omega⟩
      · have hb3 : (n.do_ == 3) = false := by simpa using h3
        have hmk : marksR (l.take (k + 1)) = marksR (l.take k) := by rw [hmk0, markStep, if_neg h3]
        have Hmk := Lib.hid hmk
        clear hmk hmk0 h3 hd htk hget
        have HO := Lib.hid hO
        clear hO
        go_wp2
        exact ⟨⟨k + 1, by omega, by go_num, by rw [Hmk.out]; exact HO.out, hB⟩, by simp [intOf]; omega⟩
    · have hkl : l.take k = l := by rw [List.take_of_length_le (by omega)]
      rw [hkl] at hO
      have HO := Lib.hid hO
      clear hO hkl
      go_wp2
      go_ret
      exact ⟨_, rfl, HO.out, hB⟩
/-- What two lists say is the same. -/
def Alike (a b : List News) : Prop := standsR a = standsR b ∧ marksR a = marksR b
set_option maxRecDepth 100000 in
set_option maxHeartbeats 8000000 in
theorem law_says (a b : List News) (A B : Option Addr) (ca cb : Nat) (w : World) (ha : Kd.C kNews w A a.length a) (hb : Kd.C kNews w B b.length b) (hca : a.length ≤ ca) (hcb : b.length ≤ cb) (hal : (a.length + 1) * 56 ≤ 140737488355328) (hbl : (b.length + 1) * 56 ≤ 140737488355328) (hsa : ∀ n ∈ a, 0 ≤ n.src ∧ n.src < 4) (hsb : ∀ n ∈ b, 0 ≤ n.src ∧ n.src < 4) (h : Alike a b) :
    Calls Try.prog 31 #[.slice A a.length ca, .slice B b.length cb] w fun e w' => e = .returned (.bool true) ∧ Below w.heap.size w w' := by
  have Ha := Lib.hid ha
  have Hb := Lib.hid hb
  have H := Lib.hid h
  have HSA := Lib.hid hsa
  have HSB := Lib.hid hsb
  clear ha hb h hsa hsb
  go_enter Try.func31, Try.ntmps31
  go_wp2_with (first
    | (go_at_call 54; (with_reducible refine (r5_StandsOf a _ _ _ Ha.out hca hal).mono ?_); rintro e w1 ⟨v1, rfl, ho1, hb1⟩; obtain ⟨A1, c1, rfl, hc1, h1⟩ := own_reads' ho1)
    | (go_at_call 54; (with_reducible refine (r5_StandsOf b _ _ _ (Kd.C_below Hb.out hb1) hcb hbl).mono ?_); rintro e w2 ⟨v2, rfl, ho2, hb2⟩; obtain ⟨A2, c2, rfl, hc2, h2⟩ := own_reads' ho2; rw [← H.out.1] at h2 ⊢; have hb12 := below_step hb1 hb2)
    | (go_at_call 53; (with_reducible refine (same_events (standsR a) (standsR a) _ _ _ _ _ (Kd.C_below h1 hb2) h2).mono ?_); rintro e w3 ⟨rfl, hb3⟩; rw [decide_eq_true rfl]; have hb13 := below_step hb12 hb3)
    | (go_at_call 55; (with_reducible refine (r5_MarksOf a _ _ _ (Kd.C_below Ha.out hb13) hca HSA.out).mono ?_); rintro e w4 ⟨v4, rfl, ho4, hb4⟩; have hb14 := below_step hb13 hb4; obtain ⟨A4, c4, rfl, hc4, h4⟩ := own_reads' ho4)
    | (go_at_call 55; (with_reducible refine (r5_MarksOf b _ _ _ (Kd.C_below Hb.out hb14) hcb HSB.out).mono ?_); rintro e w5 ⟨v5, rfl, ho5, hb5⟩; obtain ⟨A5, c5, rfl, hc5, h5⟩ := own_reads' ho5; rw [← H.out.2] at h5 ⊢; have hb15 := below_step hb14 hb5)
    | (go_at_call 40; (with_reducible refine (eq_ints (marksR a) (marksR a) _ _ _ _ _ (Kd.C_below h4 hb5) h5).mono ?_); rintro e w6 ⟨rfl, hb6⟩; rw [decide_eq_true rfl]))
  go_ret
  exact ⟨rfl, below_step hb15 hb6⟩
end Go.Proofs.Ytfmojgdomficlaa
set_option linter.unusedVariables false
set_option linter.unusedSimpArgs false
/-! What news say depends on the news that count alone. No program in sight. -/
namespace Go.Proofs.Ytfmojgdomficlaa
open Go.RowKit Go.Shelf Go.Proofs.YtfmojgdomficlaaW.PrintWords

/-- One more of the news is looked at. -/
def pickN (s i : Int) (b : Option News) (n : News) : Option News := if (ofB s i n && (match b with | none => true | some m => decide (m.ver < n.ver))) = true then some n else b
/-- The news that counts of an event. -/
def bestN (s i : Int) (l : List News) : Option News := l.foldl (pickN s i) none
def markN1 (s : Int) (M : Int) (n : News) : Int := if n.do_ = 3 ∧ n.src = s then (if M < n.body.at_ then n.body.at_ else M) else M
def mkN (s : Int) (l : List News) : Int := l.foldl (markN1 s) 0
/-- Two lists say the same. -/
def Eqv (a b : List News) : Prop := (∀ s i, bestN s i a = bestN s i b) ∧ ∀ s, mkN s a = mkN s b

theorem cntFrom_snoc (s i : Int) (n : News) : ∀ (l : List News) (k : Nat) (acc : Option (Nat × Int)), cntFrom s i (l ++ [n]) k acc = cntStep s i (cntFrom s i l k acc) (k + l.length) n
  | [], k, acc => rfl
  | m :: l, k, acc => by
    show cntFrom s i (l ++ [n]) (k + 1) (cntStep s i acc k m) = _
    rw [cntFrom_snoc s i n l (k + 1)]
    show _ = cntStep s i (cntFrom s i l (k + 1) (cntStep s i acc k m)) (k + (l.length + 1)) n
    rw [show k + 1 + l.length = k + (l.length + 1) by omega]
def CntRel (s i : Int) (l : List News) (m : Nat) (c : Option (Nat × Int)) (b : Option News) : Prop := (c = none ∧ b = none) ∨ ∃ j n, c = some (j, n.ver) ∧ b = some n ∧ l[j]? = some n ∧ ofB s i n = true ∧ j < m
theorem cnt_rel (s i : Int) (l : List News) : ∀ m, m ≤ l.length → CntRel s i l m (cntFrom s i (l.take m) 0 none) (bestN s i (l.take m))
  | 0, _ => .inl ⟨by simp [cntFrom], by simp [bestN]⟩
  | m + 1, h => by
    have hm : m < l.length := h
    have hg : l[m]? = some l[m] := List.getElem?_eq_getElem hm
    rw [List.take_succ_eq_append_getElem hm, cntFrom_snoc, bestN, List.foldl_append]
    have ih := cnt_rel s i l m (by omega)
    have hl : (l.take m).length = m := by rw [List.length_take]; omega
    rw [hl, Nat.zero_add]
    show CntRel s i l (m + 1) (cntStep s i (cntFrom s i (l.take m) 0 none) m l[m]) (pickN s i (bestN s i (l.take m)) l[m])
    rcases ih with ⟨e1, e2⟩ | ⟨j, n, e1, e2, e3, e4, e5⟩
    · rw [e1, e2]
      cases ho : ofB s i l[m]
      · exact .inl ⟨by simp [cntStep, ho], by simp [pickN, ho]⟩
      · exact .inr ⟨m, l[m], by simp [cntStep, ho], by simp [pickN, ho], hg, ho, by omega⟩
    · rw [e1, e2]
      cases ho : ofB s i l[m]
      · exact .inr ⟨j, n, by simp [cntStep, ho], by simp [pickN, ho], e3, e4, by omega⟩
      · by_cases hv : n.ver < l[m].ver
        · exact .inr ⟨m, l[m], by simp [cntStep, ho, hv], by simp [pickN, ho, hv], hg, ho, by omega⟩
        · exact .inr ⟨j, n, by simp [cntStep, ho, hv], by simp [pickN, ho, hv], e3, e4, by omega⟩
theorem cnt_all (s i : Int) (l : List News) : CntRel s i l l.length (cntFrom s i l 0 none) (bestN s i l) := by
  have := cnt_rel s i l l.length (Nat.le_refl _)
  rwa [List.take_length] at this
def evsFrom (l : List News) : List News → Nat → List Event
  | [], _ => []
  | n :: r, k => if ((n.do_ == 1) && (cntI l n.src n.id == (k : Int))) = true then evOf n :: evsFrom l r (k + 1) else evsFrom l r (k + 1)
theorem standsFrom_evs (l : List News) : ∀ (r : List News) (k : Nat) (acc : List Event), standsFrom l r k acc = (evsFrom l r k).foldl (fun a e => putR e a) acc
  | [], _, _ => rfl
  | n :: r, k, acc => by
    show standsFrom l r (k + 1) (standsStep l acc k n) = _
    rw [standsFrom_evs l r (k + 1)]
    have e : evsFrom l (n :: r) k = if ((n.do_ == 1) && (cntI l n.src n.id == (k : Int))) = true then evOf n :: evsFrom l r (k + 1) else evsFrom l r (k + 1) := rfl
    rw [e]
    unfold standsStep
    by_cases hc : ((n.do_ == 1) && (cntI l n.src n.id == (k : Int))) = true
    · rw [if_pos hc, if_pos hc]; rfl
    · rw [if_neg hc, if_neg hc]
theorem mem_evs (l : List News) : ∀ (r : List News) (k : Nat) (e : Event), e ∈ evsFrom l r k ↔ ∃ j n, r[j]? = some n ∧ n.do_ = 1 ∧ cntI l n.src n.id = ((k + j : Nat) : Int) ∧ e = evOf n
  | [], k, e => by simp [evsFrom]
  | n :: r, k, e => by
    have ih := mem_evs l r (k + 1) e
    have tail : (∃ j m, (n :: r)[j + 1]? = some m ∧ m.do_ = 1 ∧ cntI l m.src m.id = ((k + (j + 1) : Nat) : Int) ∧ e = evOf m) ↔ e ∈ evsFrom l r (k + 1) := by
      rw [ih]
      constructor
      · rintro ⟨j, m, h1, h2, h3, h4⟩; exact ⟨j, m, by simpa using h1, h2, by rw [h3]; congr 1; omega, h4⟩
      · rintro ⟨j, m, h1, h2, h3, h4⟩; exact ⟨j, m, by simpa using h1, h2, by rw [h3]; congr 1; omega, h4⟩
    unfold evsFrom
    by_cases hc : ((n.do_ == 1) && (cntI l n.src n.id == (k : Int))) = true
    · rw [if_pos hc, List.mem_cons]
      simp only [Bool.and_eq_true, beq_iff_eq] at hc
      constructor
      · rintro (h | h)
        · exact ⟨0, n, rfl, hc.1, by simpa using hc.2, h⟩
        · obtain ⟨j, m, h1, h2⟩ := tail.2 h
          exact ⟨j + 1, m, h1, h2⟩
      · rintro ⟨j, m, h1, h2, h3, h4⟩
        cases j with
        | zero => left; obtain rfl : n = m := by simpa using h1
                  exact h4
        | succ j => right; exact tail.1 ⟨j, m, h1, h2, h3, h4⟩
    · rw [if_neg hc]
      simp only [Bool.and_eq_true, beq_iff_eq, not_and] at hc
      constructor
      · intro h
        obtain ⟨j, m, h1, h2⟩ := tail.2 h
        exact ⟨j + 1, m, h1, h2⟩
      · rintro ⟨j, m, h1, h2, h3, h4⟩
        cases j with
        | zero => obtain rfl : n = m := by simpa using h1
                  exact absurd (by simpa using h3) (hc h2)
        | succ j => exact tail.1 ⟨j, m, h1, h2, h3, h4⟩
theorem evs_iff (l : List News) (e : Event) : e ∈ evsFrom l l 0 ↔ ∃ n, bestN e.src e.id l = some n ∧ n.do_ = 1 ∧ evOf n = e := by
  rw [mem_evs]
  constructor
  · rintro ⟨j, n, h1, h2, h3, rfl⟩
    refine ⟨n, ?_, h2, rfl⟩
    have := cnt_all n.src n.id l
    rcases this with ⟨c1, c2⟩ | ⟨j', n', c1, c2, c3, c4, c5⟩
    · unfold cntI at h3
      rw [c1] at h3
      simp only [bestI] at h3
      omega
    · unfold cntI at h3
      rw [c1] at h3
      simp only [bestI] at h3
      obtain rfl : j' = j := by omega
      rw [h1] at c3
      obtain rfl := Option.some.inj c3
      exact c2
  · rintro ⟨n, h1, h2, rfl⟩
    have h1' : bestN n.src n.id l = some n := h1
    have := cnt_all n.src n.id l
    rcases this with ⟨c1, c2⟩ | ⟨j', n', c1, c2, c3, c4, c5⟩
    · rw [c2] at h1'; cases h1'
    · rw [c2] at h1'
      obtain rfl := Option.some.inj h1'
      exact ⟨j', n', c3, h2, by unfold cntI; rw [c1]; simp [bestI], rfl⟩
def KeyNe (a b : Event) : Prop := ¬ (a.src = b.src ∧ a.id = b.id)
theorem evs_keys (l : List News) : ∀ (r : List News) (k : Nat), (evsFrom l r k).Pairwise KeyNe
  | [], _ => List.Pairwise.nil
  | n :: r, k => by
    have ih := evs_keys l r (k + 1)
    unfold evsFrom
    split
    · rename_i hc
      simp only [Bool.and_eq_true, beq_iff_eq] at hc
      refine List.pairwise_cons.2 ⟨fun e he hk => ?_, ih⟩
      obtain ⟨j, m, _, _, h3, rfl⟩ := (mem_evs l r (k + 1) e).1 he
      have h5 : n.src = m.src ∧ n.id = m.id := hk
      rw [← h5.1, ← h5.2, hc.2] at h3
      omega
    · exact ih
theorem bef_iff (x y : Event) : befB x y = true ↔ x.body.at_ < y.body.at_ ∨ (x.body.at_ = y.body.at_ ∧ (x.src < y.src ∨ (x.src = y.src ∧ x.id < y.id))) := by
  unfold befB
  by_cases h1 : x.body.at_ = y.body.at_
  · by_cases h2 : x.src = y.src
    · rw [if_neg (by simp [h1]), if_neg (by simp [h2]), decide_eq_true_eq]; omega
    · rw [if_neg (by simp [h1]), if_pos (by simpa using h2), decide_eq_true_eq]; omega
  · rw [if_pos (by simpa using h1), decide_eq_true_eq]; omega
theorem bef_trans {x y z : Event} (h1 : befB x y = true) (h2 : befB y z = true) : befB x z = true := by rw [bef_iff] at *; omega
theorem bef_total {x y : Event} (h : KeyNe x y) (hn : ¬ befB x y = true) : befB y x = true := by
  have : ¬ (x.src = y.src ∧ x.id = y.id) := h
  rw [bef_iff] at *; omega
theorem bef_asymm {x y : Event} (h1 : befB x y = true) (h2 : befB y x = true) : False := by rw [bef_iff] at *; omega
theorem putR_perm (x : Event) : ∀ l : List Event, (putR x l).Perm (x :: l)
  | [] => List.Perm.refl _
  | y :: l => by
    unfold putR
    split
    · exact List.Perm.refl _
    · exact ((putR_perm x l).cons y).trans (List.Perm.swap x y l)
def Bef (x y : Event) : Prop := befB x y = true
theorem putR_sorted (x : Event) : ∀ l : List Event, l.Pairwise Bef → (∀ y ∈ l, KeyNe x y) → (putR x l).Pairwise Bef
  | [], _, _ => List.pairwise_singleton _ _
  | y :: l, h, hk => by
    obtain ⟨h1, h2⟩ := List.pairwise_cons.1 h
    unfold putR
    split
    · rename_i hb
      exact List.pairwise_cons.2 ⟨fun z hz => by
        rcases List.mem_cons.1 hz with rfl | hz
        · exact hb
        · exact bef_trans hb (h1 z hz), h⟩
    · rename_i hb
      refine List.pairwise_cons.2 ⟨fun z hz => ?_, putR_sorted x l h2 fun z hz => hk z (List.mem_cons_of_mem _ hz)⟩
      rcases List.mem_cons.1 ((putR_perm x l).mem_iff.1 hz) with rfl | hz
      · exact bef_total (hk y List.mem_cons_self) hb
      · exact h1 z hz
theorem fold_put : ∀ (es acc : List Event), acc.Pairwise Bef → es.Pairwise KeyNe → (∀ e ∈ es, ∀ y ∈ acc, KeyNe e y) → (es.foldl (fun a e => putR e a) acc).Pairwise Bef ∧ (es.foldl (fun a e => putR e a) acc).Perm (es ++ acc)
  | [], acc, h, _, _ => ⟨h, List.Perm.refl _⟩
  | e :: es, acc, h, hk, hka => by
    obtain ⟨k1, k2⟩ := List.pairwise_cons.1 hk
    rw [List.foldl_cons]
    obtain ⟨p1, p2⟩ := fold_put es (putR e acc) (putR_sorted e acc h fun y hy => hka e List.mem_cons_self y hy) k2 (fun x hx y hy => by
      rcases List.mem_cons.1 ((putR_perm e acc).mem_iff.1 hy) with rfl | hy
      · exact fun he => k1 x hx ⟨he.1.symm, he.2.symm⟩
      · exact hka x (List.mem_cons_of_mem _ hx) y hy)
    refine ⟨p1, p2.trans ?_⟩
    have h3 : (es ++ putR e acc).Perm (es ++ (e :: acc)) := List.Perm.append_left es (putR_perm e acc)
    exact h3.trans List.perm_middle
theorem stands_spec (l : List News) : (standsR l).Pairwise Bef ∧ (standsR l).Perm (evsFrom l l 0) := by
  have := fold_put (evsFrom l l 0) [] List.Pairwise.nil (evs_keys l l 0) (fun _ _ y hy => by simp at hy)
  rw [List.append_nil, ← standsFrom_evs] at this
  exact this
theorem sorted_same : ∀ {l1 l2 : List Event}, l1.Perm l2 → l1.Pairwise Bef → l2.Pairwise Bef → l1 = l2
  | [], l2, hp, _, _ => (List.nil_perm.1 hp).symm
  | a :: l1, [], hp, _, _ => by have := hp.length_eq; simp at this
  | a :: l1, b :: l2, hp, h1, h2 => by
    have hab : a = b := by
      rcases List.mem_cons.1 (hp.mem_iff.1 List.mem_cons_self) with e | ha
      · exact e
      · rcases List.mem_cons.1 (hp.mem_iff.2 List.mem_cons_self) with e | hb
        · exact e.symm
        · exact (bef_asymm ((List.pairwise_cons.1 h1).1 b hb) ((List.pairwise_cons.1 h2).1 a ha)).elim
    subst hab
    rw [sorted_same (List.perm_cons a |>.1 hp) (List.pairwise_cons.1 h1).2 (List.pairwise_cons.1 h2).2]
theorem stands_eq {a b : List News} (h : ∀ s i, bestN s i a = bestN s i b) : standsR a = standsR b := by
  obtain ⟨a1, a2⟩ := stands_spec a
  obtain ⟨b1, b2⟩ := stands_spec b
  have nd : ∀ l : List News, (evsFrom l l 0).Nodup := fun l => (evs_keys l l 0).imp fun hk e => hk (by rw [e]; exact ⟨rfl, rfl⟩)
  have hp : (evsFrom a a 0).Perm (evsFrom b b 0) := (List.perm_ext_iff_of_nodup (nd a) (nd b)).2 fun e => by rw [evs_iff, evs_iff, h]
  exact sorted_same ((a2.trans hp).trans b2.symm) a1 b1
theorem marks_eq1 (l : List News) (hs : ∀ n ∈ l, 0 ≤ n.src ∧ n.src < 4) : ∀ (m0 m1 m2 m3 : Int), l.foldl markStep [m0, m1, m2, m3] = [l.foldl (markN1 0) m0, l.foldl (markN1 1) m1, l.foldl (markN1 2) m2, l.foldl (markN1 3) m3] := by
  induction l with
  | nil => intro m0 m1 m2 m3; rfl
  | cons n l ih =>
    intro m0 m1 m2 m3
    have ih := ih fun x hx => hs x (List.mem_cons_of_mem _ hx)
    obtain ⟨h0, h4⟩ := hs n List.mem_cons_self
    simp only [List.foldl_cons]
    have hstep : markStep [m0, m1, m2, m3] n = [markN1 0 m0 n, markN1 1 m1 n, markN1 2 m2 n, markN1 3 m3 n] := by
      unfold markStep markN1
      by_cases h3 : n.do_ = 3
      · rw [if_pos h3]
        obtain e | e | e | e : n.src = 0 ∨ n.src = 1 ∨ n.src = 2 ∨ n.src = 3 := by omega
        all_goals simp [e, h3, rdOf]
      · rw [if_neg h3]
        simp [h3]
    rw [hstep, ih]
theorem marks_eq {a b : List News} (h : ∀ s, mkN s a = mkN s b) (ha : ∀ n ∈ a, 0 ≤ n.src ∧ n.src < 4) (hb : ∀ n ∈ b, 0 ≤ n.src ∧ n.src < 4) : marksR a = marksR b := by
  unfold marksR
  rw [marks_eq1 a ha, marks_eq1 b hb]
  have e : ∀ s, a.foldl (markN1 s) 0 = b.foldl (markN1 s) 0 := h
  rw [e 0, e 1, e 2, e 3]
theorem Eqv.alike {a b : List News} (h : Eqv a b) (ha : ∀ n ∈ a, 0 ≤ n.src ∧ n.src < 4) (hb : ∀ n ∈ b, 0 ≤ n.src ∧ n.src < 4) : Alike a b := ⟨stands_eq h.1, marks_eq h.2 ha hb⟩
end Go.Proofs.Ytfmojgdomficlaa
set_option linter.unusedVariables false
set_option linter.unusedSimpArgs false
/-! Merged records say the same. No program in sight. -/
namespace Go.Proofs.Ytfmojgdomficlaa

def combN (x y : Option News) : Option News := match y with
  | none => x
  | some n => match x with
    | none => some n
    | some m => if m.ver < n.ver then some n else some m
theorem comb_pick (s i : Int) (x y : Option News) (n : News) : combN x (pickN s i y n) = pickN s i (combN x y) n := by
  cases ho : ofB s i n
  · simp [pickN, ho]
  · cases x with
    | none =>
      cases y with
      | none => simp [pickN, ho, combN]
      | some b =>
        by_cases h : b.ver < n.ver
        · simp [pickN, ho, combN, h]
        · simp [pickN, ho, combN, h]
    | some a =>
      cases y with
      | none =>
        by_cases h : a.ver < n.ver
        · simp [pickN, ho, combN, h]
        · simp [pickN, ho, combN, h]
      | some b =>
        by_cases h : b.ver < n.ver
        · by_cases h2 : a.ver < b.ver
          · have h3 : a.ver < n.ver := by omega
            simp [pickN, ho, combN, h, h2, h3]
          · by_cases h3 : a.ver < n.ver
            · simp [pickN, ho, combN, h, h2, h3]
            · simp [pickN, ho, combN, h, h2, h3]
        · by_cases h2 : a.ver < b.ver
          · simp [pickN, ho, combN, h, h2]
          · have h3 : ¬ a.ver < n.ver := by omega
            simp [pickN, ho, combN, h, h2, h3]
theorem best_snoc (s i : Int) (l : List News) (n : News) : bestN s i (l ++ [n]) = pickN s i (bestN s i l) n := by simp [bestN, List.foldl_append]
theorem mk_snoc (s : Int) (l : List News) (n : News) : mkN s (l ++ [n]) = markN1 s (mkN s l) n := by simp [mkN, List.foldl_append]
theorem foldr_snoc_ind {P : List News → Prop} (h0 : P []) (h1 : ∀ l n, P l → P (l ++ [n])) : ∀ l, P l := by
  intro l
  have : ∀ l : List News, P l.reverse := by
    intro l
    induction l with
    | nil => exact h0
    | cons n l ih => rw [List.reverse_cons]; exact h1 _ _ ih
  have := this l.reverse
  rwa [List.reverse_reverse] at this
theorem fold_pick (s i : Int) (x : Option News) : ∀ l : List News, l.foldl (pickN s i) x = combN x (bestN s i l) := by
  refine foldr_snoc_ind rfl fun l n ih => ?_
  rw [List.foldl_append, ih, best_snoc]
  exact (comb_pick s i x (bestN s i l) n).symm
theorem best_append (s i : Int) (a b : List News) : bestN s i (a ++ b) = combN (bestN s i a) (bestN s i b) := by
  rw [bestN, List.foldl_append]
  exact fold_pick s i _ b
theorem mark_max (s M : Int) (n : News) : markN1 s M n = if n.do_ = 3 ∧ n.src = s then max M n.body.at_ else M := by
  unfold markN1
  split
  · split <;> omega
  · rfl
theorem mk_nonneg (s : Int) : ∀ l : List News, 0 ≤ mkN s l := by
  refine foldr_snoc_ind (by simp [mkN]) fun l n ih => ?_
  rw [mkN, List.foldl_append]
  show 0 ≤ markN1 s (mkN s l) n
  rw [mark_max]
  split <;> omega
theorem fold_mark (s M : Int) (hM : 0 ≤ M) : ∀ l : List News, l.foldl (markN1 s) M = max M (mkN s l) := by
  refine foldr_snoc_ind (by simp [mkN]; omega) fun l n ih => ?_
  rw [List.foldl_append, ih, mk_snoc]
  show markN1 s (max M (mkN s l)) n = max M (markN1 s (mkN s l) n)
  rw [mark_max, mark_max]
  split <;> omega
theorem mk_append (s : Int) (a b : List News) : mkN s (a ++ b) = max (mkN s a) (mkN s b) := by
  rw [mkN, List.foldl_append]
  exact fold_mark s _ (mk_nonneg s a) b
theorem Eqv.refl (a : List News) : Eqv a a := ⟨fun _ _ => rfl, fun _ => rfl⟩
theorem Eqv.symm {a b : List News} (h : Eqv a b) : Eqv b a := ⟨fun s i => (h.1 s i).symm, fun s => (h.2 s).symm⟩
theorem Eqv.trans {a b c : List News} (h : Eqv a b) (k : Eqv b c) : Eqv a c := ⟨fun s i => (h.1 s i).trans (k.1 s i), fun s => (h.2 s).trans (k.2 s)⟩
theorem Eqv.append {a b c d : List News} (h : Eqv a b) (k : Eqv c d) : Eqv (a ++ c) (b ++ d) :=
  ⟨fun s i => by rw [best_append, best_append, h.1, k.1], fun s => by rw [mk_append, mk_append, h.2, k.2]⟩
theorem of_key (s i : Int) (n : News) : ofB s i n = true ↔ n.do_ ≠ 3 ∧ keyOf n = ⟨s, i⟩ := by
  unfold ofB keyOf
  simp only [Bool.and_eq_true, bne_iff_ne, beq_iff_eq, Key.mk.injEq]
theorem take_map_succ (l : List SRec) (m : Nat) (r : SRec) (h : l[m]? = some r) : (l.take (m + 1)).map (·.news) = (l.take m).map (·.news) ++ [r.news] := by
  obtain ⟨hm, rfl⟩ := List.getElem?_eq_some_iff.1 h
  rw [List.take_succ_eq_append_getElem hm, List.map_append]
  rfl
def newsAt (l : List SRec) (b : Nat) : News := (l[b]?.getD default).news
theorem ev_best (l : List SRec) (s i : Int) : ∀ m, m ≤ l.length → bestN s i ((l.take m).map (·.news)) = (evBest l ⟨s, i⟩ m).map (newsAt l)
  | 0, _ => by simp [bestN, evBest]
  | m + 1, h => by
    have hg : l[m]? = some l[m] := List.getElem?_eq_getElem h
    rw [take_map_succ l m _ hg, best_snoc, ev_best l s i m (by omega)]
    have hn : newsAt l m = l[m].news := by simp [newsAt, hg]
    simp only [evBest, hg]
    by_cases hk : l[m].news.do_ ≠ 3 ∧ keyOf l[m].news = ⟨s, i⟩
    · have ho := (of_key s i l[m].news).2 hk
      rw [if_pos hk]
      cases he : evBest l ⟨s, i⟩ m with
      | none => simp [pickN, ho, hn]
      | some b =>
        by_cases hv : (newsAt l b).ver < l[m].news.ver
        · have hv' : (l[b]?.getD default).news.ver < l[m].news.ver := hv
          simp [pickN, ho, hn, hv, hv']
        · have hv' : ¬ (l[b]?.getD default).news.ver < l[m].news.ver := hv
          simp [pickN, ho, hn, hv, hv']
    · have ho : ofB s i l[m].news = false := by
        cases h2 : ofB s i l[m].news
        · rfl
        · exact absurd ((of_key s i _).1 h2) hk
      rw [if_neg hk]
      simp [pickN, ho]
theorem evBest_key (l : List SRec) (k : Key) : ∀ m b, evBest l k m = some b → ∃ r, l[b]? = some r ∧ r.news.do_ ≠ 3 ∧ keyOf r.news = k
  | 0, b, h => by cases h
  | m + 1, b, h => by
    simp only [evBest] at h
    split at h
    · exact evBest_key l k m b h
    · rename_i r hr
      split at h
      · rename_i hk
        split at h
        · cases h; exact ⟨r, hr, hk⟩
        · rename_i x hx
          split at h
          · cases h; exact ⟨r, hr, hk⟩
          · cases h; exact evBest_key l k m _ hx
      · exact evBest_key l k m b h
theorem evBest_some (l : List SRec) (k : Key) (j : Nat) (r : SRec) (hj : l[j]? = some r) (h3 : r.news.do_ ≠ 3) (hk : keyOf r.news = k) : ∀ m, j < m → m ≤ l.length → ∃ b, evBest l k m = some b
  | 0, h, _ => absurd h (by omega)
  | m + 1, h, hm => by
    simp only [evBest]
    rw [List.getElem?_eq_getElem (show m < l.length by omega)]
    simp only
    by_cases e : j = m
    · subst e
      rw [List.getElem?_eq_getElem (by omega)] at hj
      rw [Option.some.inj hj, if_pos ⟨h3, hk⟩]
      split
      · exact ⟨_, rfl⟩
      · split <;> exact ⟨_, rfl⟩
    · obtain ⟨b, hb⟩ := evBest_some l k j r hj h3 hk m (by omega) (by omega)
      split
      · rw [hb]
        simp only
        split <;> exact ⟨_, rfl⟩
      · exact ⟨b, hb⟩
theorem merged_best (l : List SRec) (s i : Int) : ∀ m, m ≤ l.length → bestN s i ((mergedUpto l m).map (·.news)) = (match evBest l ⟨s, i⟩ l.length with | some b => if b < m then some (newsAt l b) else none | none => none)
  | 0, _ => by
    simp only [mergedUpto, List.map_nil]
    cases evBest l ⟨s, i⟩ l.length <;> simp [bestN]
  | m + 1, h => by
    have ih := merged_best l s i m (by omega)
    have hg : l[m]? = some l[m] := List.getElem?_eq_getElem h
    have hn : newsAt l m = l[m].news := by simp [newsAt, hg]
    simp only [mergedUpto, hg]
    cases ho : ofB s i l[m].news
    · have hne : ∀ b, evBest l ⟨s, i⟩ l.length = some b → b ≠ m := fun b hb e => by
        obtain ⟨r, h1, h2, h3⟩ := evBest_key l _ _ _ hb
        subst e
        rw [hg] at h1
        rw [← Option.some.inj h1] at h2 h3
        rw [(of_key s i _).2 ⟨h2, h3⟩] at ho
        cases ho
      have rhs : (match evBest l ⟨s, i⟩ l.length with | some b => if b < m + 1 then some (newsAt l b) else none | none => none) = (match evBest l ⟨s, i⟩ l.length with | some b => if b < m then some (newsAt l b) else none | none => none) := by
        cases hb : evBest l ⟨s, i⟩ l.length with
        | none => rfl
        | some b =>
          have := hne b hb
          by_cases hlt : b < m
          · simp only [if_pos hlt, if_pos (show b < m + 1 by omega)]
          · simp only [if_neg hlt, if_neg (show ¬ b < m + 1 by omega)]
      rw [rhs, ← ih]
      split
      · rw [List.map_append]
        show bestN s i (_ ++ [l[m].news]) = _
        rw [best_snoc]
        simp [pickN, ho]
      · rfl
    · obtain ⟨k3, kk⟩ := (of_key s i _).1 ho
      obtain ⟨b, hb⟩ := evBest_some l ⟨s, i⟩ m _ hg k3 kk l.length h (Nat.le_refl _)
      have hkI : keptI l l[m] = b := by unfold keptI; rw [if_neg k3, kk, hb]; rfl
      rw [hb] at ih ⊢
      simp only at ih ⊢
      rw [hkI]
      by_cases e : b = m
      · subst e
        rw [if_pos rfl, if_pos (by omega), List.map_append]
        show bestN s i (_ ++ [l[b].news]) = _
        rw [best_snoc, ih, if_neg (by omega), hn]
        simp [pickN, ho]
      · rw [if_neg e, ih]
        by_cases hlt : b < m
        · rw [if_pos hlt, if_pos (by omega)]
        · rw [if_neg hlt, if_neg (by omega)]
theorem merged_all (l : List SRec) (s i : Int) : bestN s i ((mergedOf l).map (·.news)) = bestN s i (l.map (·.news)) := by
  have h1 := merged_best l s i l.length (Nat.le_refl _)
  have h2 := ev_best l s i l.length (Nat.le_refl _)
  rw [List.take_length] at h2
  rw [mergedOf, h1, h2]
  cases hb : evBest l ⟨s, i⟩ l.length with
  | none => rfl
  | some b => simp only [if_pos (evBest_lt l _ _ _ hb)]; rfl
/-! Marks. -/
def markAt (l : List SRec) (b : Nat) : Int := (newsAt l b).body.at_
theorem mkBest_key (l : List SRec) (s : Int) : ∀ m b, mkBest l s m = some b → ∃ r, l[b]? = some r ∧ r.news.do_ = 3 ∧ r.news.src = s
  | 0, b, h => by cases h
  | m + 1, b, h => by
    simp only [mkBest] at h
    split at h
    · exact mkBest_key l s m b h
    · rename_i r hr
      split at h
      · rename_i hk
        split at h
        · cases h; exact ⟨r, hr, hk⟩
        · rename_i x hx
          split at h
          · cases h; exact ⟨r, hr, hk⟩
          · cases h; exact mkBest_key l s m _ hx
      · exact mkBest_key l s m b h
theorem mkBest_some (l : List SRec) (s : Int) (j : Nat) (r : SRec) (hj : l[j]? = some r) (h3 : r.news.do_ = 3) (hk : r.news.src = s) : ∀ m, j < m → m ≤ l.length → ∃ b, mkBest l s m = some b
  | 0, h, _ => absurd h (by omega)
  | m + 1, h, hm => by
    simp only [mkBest]
    rw [List.getElem?_eq_getElem (show m < l.length by omega)]
    simp only
    by_cases e : j = m
    · subst e
      rw [List.getElem?_eq_getElem (by omega)] at hj
      rw [Option.some.inj hj, if_pos ⟨h3, hk⟩]
      split
      · exact ⟨_, rfl⟩
      · split <;> exact ⟨_, rfl⟩
    · obtain ⟨b, hb⟩ := mkBest_some l s j r hj h3 hk m (by omega) (by omega)
      split
      · rw [hb]
        simp only
        split <;> exact ⟨_, rfl⟩
      · exact ⟨b, hb⟩
def MarksNN (l : List SRec) : Prop := ∀ r ∈ l, r.news.do_ = 3 → 0 ≤ r.news.body.at_
theorem mk_best (l : List SRec) (hl : MarksNN l) (s : Int) : ∀ m, m ≤ l.length → mkN s ((l.take m).map (·.news)) = (match mkBest l s m with | some b => markAt l b | none => 0)
  | 0, _ => by simp [mkN, mkBest]
  | m + 1, h => by
    have hg : l[m]? = some l[m] := List.getElem?_eq_getElem h
    rw [take_map_succ l m _ hg, mk_snoc, mk_best l hl s m (by omega), mark_max]
    have hn : newsAt l m = l[m].news := by simp [newsAt, hg]
    simp only [mkBest, hg]
    by_cases hk : l[m].news.do_ = 3 ∧ l[m].news.src = s
    · have h0 := hl _ (List.getElem_mem h) hk.1
      rw [if_pos hk, if_pos hk]
      cases he : mkBest l s m with
      | none => simp only [markAt, hn]; omega
      | some b =>
        by_cases hv : markAt l b < l[m].news.body.at_
        · have hv' : (l[b]?.getD default).news.body.at_ < l[m].news.body.at_ := hv
          simp only [if_pos hv', markAt, hn] at hv ⊢
          omega
        · have hv' : ¬ (l[b]?.getD default).news.body.at_ < l[m].news.body.at_ := hv
          simp only [if_neg hv']
          omega
    · rw [if_neg hk, if_neg hk]
theorem merged_mk (l : List SRec) (hl : MarksNN l) (s : Int) : ∀ m, m ≤ l.length → mkN s ((mergedUpto l m).map (·.news)) = (match mkBest l s l.length with | some b => if b < m then markAt l b else 0 | none => 0)
  | 0, _ => by
    simp only [mergedUpto, List.map_nil]
    cases mkBest l s l.length <;> simp [mkN]
  | m + 1, h => by
    have ih := merged_mk l hl s m (by omega)
    have hg : l[m]? = some l[m] := List.getElem?_eq_getElem h
    have hn : newsAt l m = l[m].news := by simp [newsAt, hg]
    simp only [mergedUpto, hg]
    by_cases hk : l[m].news.do_ = 3 ∧ l[m].news.src = s
    · obtain ⟨b, hb⟩ := mkBest_some l s m _ hg hk.1 hk.2 l.length h (Nat.le_refl _)
      have hkI : keptI l l[m] = b := by unfold keptI; rw [if_pos hk.1, hk.2, hb]; rfl
      rw [hb] at ih ⊢
      simp only at ih ⊢
      rw [hkI]
      by_cases e : b = m
      · subst e
        have h0 := hl _ (List.getElem_mem h) hk.1
        rw [if_pos rfl, if_pos (by omega), List.map_append]
        show mkN s (_ ++ [l[b].news]) = _
        rw [mk_snoc, ih, if_neg (by omega), mark_max, if_pos hk, markAt, hn]
        omega
      · rw [if_neg e, ih]
        by_cases hlt : b < m
        · rw [if_pos hlt, if_pos (by omega)]
        · rw [if_neg hlt, if_neg (by omega)]
    · have rhs : (match mkBest l s l.length with | some b => if b < m + 1 then markAt l b else 0 | none => 0) = (match mkBest l s l.length with | some b => if b < m then markAt l b else 0 | none => 0) := by
        cases hb : mkBest l s l.length with
        | none => rfl
        | some b =>
          have hne : b ≠ m := fun e => by
            obtain ⟨r, h1, h2, h3⟩ := mkBest_key l _ _ _ hb
            subst e
            rw [hg] at h1
            rw [← Option.some.inj h1] at h2 h3
            exact hk ⟨h2, h3⟩
          by_cases hlt : b < m
          · simp only [if_pos hlt, if_pos (show b < m + 1 by omega)]
          · simp only [if_neg hlt, if_neg (show ¬ b < m + 1 by omega)]
      rw [rhs, ← ih]
      split
      · rw [List.map_append]
        show mkN s (_ ++ [l[m].news]) = _
        rw [mk_snoc, mark_max, if_neg hk]
      · rfl
theorem merged_marks (l : List SRec) (hl : MarksNN l) (s : Int) : mkN s ((mergedOf l).map (·.news)) = mkN s (l.map (·.news)) := by
  have h1 := merged_mk l hl s l.length (Nat.le_refl _)
  have h2 := mk_best l hl s l.length (Nat.le_refl _)
  rw [List.take_length] at h2
  rw [mergedOf, h1, h2]
  cases hb : mkBest l s l.length with
  | none => rfl
  | some b => simp only [if_pos (mkBest_lt l _ _ _ hb)]
/-- Merged records say the same. -/
theorem merged_eqv (l : List SRec) (hl : MarksNN l) : Eqv ((mergedOf l).map (·.news)) (l.map (·.news)) := ⟨merged_all l, merged_marks l hl⟩
end Go.Proofs.Ytfmojgdomficlaa
set_option linter.unusedVariables false
set_option linter.unusedSimpArgs false
/-! A merge, wherever it ends, says the same. No program in sight. -/
namespace Go.Proofs.Ytfmojgdomficlaa

theorem good_mark {n : News} {srcs : Int} (h : goodB n srcs = true) (h3 : n.do_ = 3) : 0 ≤ n.body.at_ := by
  rw [goodB_mark h3] at h
  simp only [Bool.and_eq_true, markedB, inB, decide_eq_true_eq] at h
  exact h.2.2.2.2.1
theorem good_src {n : News} (h : goodB n 4 = true) : 0 ≤ n.src ∧ n.src < 4 := by
  simp only [goodB, Bool.and_eq_true, inB, decide_eq_true_eq] at h
  omega
theorem there_good {d : SDisk} (h : DiskOk d) : ∀ n ∈ thereOf d, goodB n 4 = true := ((formed_iff' _ _).1 h.formed).1.2
theorem sync_safe {d : SDisk} (hd : DiskOk d) {i : Nat} (ho : OpenOk d i) : AllSafe (syncD d i) := fun f hf => by
  obtain ⟨j, hj⟩ := List.getElem?_of_mem hf
  have hj' : (d.files.set i ⟨(fileAt d i).no, (fileAt d i).recs, (fileAt d i).recs.length⟩)[j]? = some f := hj
  by_cases e : i = j
  · subst e
    rw [List.getElem?_set_self ho.lt] at hj'
    rw [← Option.some.inj hj']
  · rw [List.getElem?_set_ne e] at hj'
    have hm := List.mem_of_getElem? hj'
    have hf' := hd.each f hm
    rcases hf'.full with h | h
    · have := hf'.safe1; omega
    · exfalso
      have hs := (List.pairwise_cons.1 hd.sorted).2
      have hi := fileAt_get ho.lt
      obtain ⟨hjl, ej⟩ := List.getElem?_eq_some_iff.1 hj'
      obtain ⟨hil, ei⟩ := List.getElem?_eq_some_iff.1 hi
      have hno : f.no = (fileAt d i).no := by rw [h, openFile ho]
      have hp := List.pairwise_iff_getElem.1 hs
      rcases Nat.lt_or_ge i j with hlt | hge
      · have := hp i j (by simpa using hil) (by simpa using hjl) hlt
        simp only [List.getElem_map, ei, ej] at this
        omega
      · have := hp j i (by simpa using hjl) (by simpa using hil) (by omega)
        simp only [List.getElem_map, ei, ej] at this
        omega
theorem sync_there {d : SDisk} (hd : DiskOk d) {i : Nat} (ho : OpenOk d i) : thereOf (syncD d i) = thereOf d := by
  rw [there_split hd ho]
  exact there_set hd ho _ rfl
theorem sync_whole {d : SDisk} (hw : wholeB d = true) {i : Nat} (ho : OpenOk d i) : wholeB (syncD d i) = true := by
  refine List.all_eq_true.2 fun f hf => ?_
  have hi := fileAt_get ho.lt
  rcases List.mem_or_eq_of_mem_set hf with h | h
  · exact List.all_eq_true.1 hw f h
  · subst h
    exact List.all_eq_true.1 hw (fileAt d i) (List.mem_of_getElem? hi)
theorem lastNo_map (d : SDisk) : lastNo d = ((d.files.map (·.no)).getLast?).getD 0 := by
  unfold lastNo
  rw [List.getLast?_map]
  cases d.files.getLast? <;> rfl
theorem sync_last {d : SDisk} {i : Nat} (ho : OpenOk d i) : lastNo (syncD d i) = lastNo d := by
  rw [lastNo_map, lastNo_map]
  have : (syncD d i).files.map (·.no) = d.files.map (·.no) := nos_set (fileAt_get ho.lt) rfl
  rw [this]
theorem play_sync {d : SDisk} (hd : diskB d = true) (hw : wholeB d = true) : playOf d [doS 2] = ((syncD d (openAt d), [true]), 0) := by
  unfold playOf
  rw [if_neg (by rw [hd]; simp), if_neg (by decide), if_neg (by decide)]
  have : playTo d [doS 2] = ((stepD d (doS 2)).1, [(stepD d (doS 2)).2]) := rfl
  rw [this]
  have e : stepD d (doS 2) = (syncD d (openAt d), true) := by
    unfold stepD
    rw [if_neg (by decide), if_neg (by decide), if_neg (by rw [hw]; simp), if_neg (by decide), if_pos (by decide)]
  rw [e]
theorem play_merge {d : SDisk} (hd : diskB d = true) (hw : wholeB d = true) (k stop : Int) (hk : 0 ≤ k) (h0 : 0 ≤ stop) (h2 : stop ≤ 2) :
    playOf d [mergeS k stop, doS 6] = ((reopenD (mergeD d k.toNat stop).1, [(mergeD d k.toNat stop).2, true]), 0) := by
  have hf : fitsB (mergeS k stop) = true := by
    have ho : ¬ oddB (mergeS k stop) := by unfold oddB mergeS; simp [noNews, newsEq]; omega
    rw [fitsB, if_neg ho]
    simp [mergeS]
  unfold playOf
  rw [if_neg (by rw [hd]; simp), if_neg (by simp [hf, show fitsB (doS 6) = true from by decide]), if_neg (by simp)]
  have : playTo d [mergeS k stop, doS 6] = ((stepD (stepD d (mergeS k stop)).1 (doS 6)).1, [(stepD d (mergeS k stop)).2, (stepD (stepD d (mergeS k stop)).1 (doS 6)).2]) := rfl
  rw [this]
  have e : stepD d (mergeS k stop) = mergeD d k.toNat stop := by
    unfold stepD mergeS
    simp [hw]
  have e2 : ∀ x : SDisk, stepD x (doS 6) = (reopenD x, true) := fun x => rfl
  rw [e, e2]
theorem merge_says {d : SDisk} (hd : DiskOk d) (hw : wholeB d = true) {k : Nat} (hk : k + 2 < d.list.length) : Eqv (thereOf (merge2D d k)) (thereOf d) ∧ (thereOf (merge2D d k)).length ≤ (thereOf d).length := by
  have hF := merge_facts hd hw hk
  have e1 := merge2_there hd hk hw
  have e2 := there_at hd hk hw
  have hr : mergeRecs d k = mergedOf ((fileOf d.files (listAt d k)).recs ++ (fileOf d.files (listAt d (k + 1))).recs) := by
    unfold mergeRecs
    rw [fileNo_of hF.pa, fileNo_of hF.pb]
  have hm : MarksNN ((fileOf d.files (listAt d k)).recs ++ (fileOf d.files (listAt d (k + 1))).recs) := fun r hr h3 => by
    refine good_mark (there_good hd r.news ?_) h3
    rw [e2]
    refine List.mem_append_right _ (List.mem_append_left _ ?_)
    rw [← List.map_append]
    exact List.mem_map_of_mem hr
  rw [e1, e2, hr, ← List.map_append]
  refine ⟨(Eqv.refl _).append ((merged_eqv _ hm).append (Eqv.refl _)), ?_⟩
  have := mergedOf_len ((fileOf d.files (listAt d k)).recs ++ (fileOf d.files (listAt d (k + 1))).recs)
  simp only [List.length_append, List.length_map] at this ⊢
  omega
theorem merge1_says {d : SDisk} (hd : DiskOk d) (k : Nat) : thereOf (merge1D d k) = thereOf d :=
  there_same (fs := d.files) (gs := (merge1D d k).files) (l := d.list) fun no hno => by
    have := fresh_old hd (mergeRecs d k) (hd.placed no hno)
    show goodOf (fileOf (freshD d (mergeRecs d k)).files no).recs = _
    rw [this]
theorem merge3_says {d : SDisk} (hd : DiskOk d) (hw : wholeB d = true) {k : Nat} (hk : k + 2 < d.list.length) (hf : ¬ fullB d = true) : thereOf (merge3D d k) = thereOf (merge2D d k) := by
  refine drop_there (merge2_ok hd hw hk hf) _ fun no hno => ?_
  have h3 := hd.nodup
  have hla : listAt d k ∈ d.list := List.mem_of_getElem? (listAt_get (by omega))
  have hlb : listAt d (k + 1) ∈ d.list := List.mem_of_getElem? (listAt_get (by omega))
  have h2 := fresh_notin hd
  rw [list_at hk, List.nodup_append] at h3
  obtain ⟨n1, n2, n3⟩ := h3
  have m1 := List.nodup_cons.1 n2
  have m2 := List.nodup_cons.1 m1.2
  simp only [merge2D, List.mem_append, List.mem_singleton] at hno
  simp only [Bool.and_eq_true, Bool.not_eq_true', beq_eq_false_iff_ne]
  rcases hno with (h | rfl) | h
  · exact ⟨n3 no h _ List.mem_cons_self, n3 no h _ (List.mem_cons_of_mem _ List.mem_cons_self)⟩
  · exact ⟨fun e => h2 (e ▸ hla), fun e => h2 (e ▸ hlb)⟩
  · exact ⟨fun e => m1.1 (e ▸ List.mem_cons_of_mem _ h), fun e => m2.1 (e ▸ h)⟩
theorem merge1_safe {d : SDisk} (h : AllSafe d) (k : Nat) : AllSafe (merge1D d k) := fun f hf => by
  rcases List.mem_append.1 (show f ∈ d.files ++ _ from hf) with h1 | h1
  · exact h f h1
  · rw [List.mem_singleton.1 h1]
theorem merge2_safe {d : SDisk} (h : AllSafe d) (k : Nat) : AllSafe (merge2D d k) := fun f hf => merge1_safe h k f hf
/-- A merge of a device of which all is safe, wherever it ends. -/
theorem merged_ends {d : SDisk} (hd : DiskOk d) (hw : wholeB d = true) (hs : AllSafe d) (k : Nat) (stop : Int) :
    (mergeD d k stop).2 = (decide (k + 2 < d.list.length) && decide (lastNo d < 9999)) ∧ Eqv (thereOf (mergeD d k stop).1) (thereOf d) ∧ (thereOf (mergeD d k stop).1).length ≤ (thereOf d).length ∧
      (mergeD d k stop).1.list.length = if ((mergeD d k stop).2 && (stop != 1)) = true then d.list.length - 1 else d.list.length := by
  have hol := hd.ready.open.lt
  by_cases hg : d.list.length ≤ k + 2 ∨ fullB d = true
  · have e : mergeD d k stop = (d, false) := by unfold mergeD; rw [if_pos hg]
    rw [e]
    refine ⟨?_, Eqv.refl _, Nat.le_refl _, by simp⟩
    rcases hg with h | h
    · rw [decide_eq_false (by omega)]; rfl
    · unfold fullB at h
      have := of_decide_eq_true h
      rw [decide_eq_false (show ¬ lastNo d < 9999 by omega)]
      simp
  · have hk : k + 2 < d.list.length := by have := fun h => hg (.inl h); omega
    have hf : ¬ fullB d = true := fun h => hg (.inr h)
    have hln : lastNo d < 9999 := by
      apply Classical.byContradiction
      intro h
      exact hf (decide_eq_true (by omega))
    have hdone : (decide (k + 2 < d.list.length) && decide (lastNo d < 9999)) = true := by rw [decide_eq_true hk, decide_eq_true hln]; rfl
    rw [hdone]
    have hsays := merge_says hd hw hk
    have hl2 : (merge2D d k).list.length = d.list.length - 1 := by
      simp only [merge2D, List.length_append, List.length_take, List.length_drop, List.length_cons, List.length_nil]
      omega
    by_cases h1 : stop = 1
    · have e : mergeD d k stop = (merge1D d k, true) := by
        unfold mergeD
        rw [if_neg hg, if_pos h1, crash_still (merge1_safe hs k) (by simp [merge1D, freshD]; omega)]
      rw [e, merge1_says hd k]
      exact ⟨rfl, Eqv.refl _, Nat.le_refl _, by simp [h1, merge1D, freshD]⟩
    · by_cases h2 : stop = 2
      · have e : mergeD d k stop = (merge2D d k, true) := by
          unfold mergeD
          rw [if_neg hg, if_neg h1, if_pos h2, crash_still (merge2_safe hs k) (by simp [merge2D, merge1D, freshD]; omega)]
        rw [e]
        exact ⟨rfl, hsays.1, hsays.2, by rw [if_pos (by simp [h1]), hl2]⟩
      · have e : mergeD d k stop = (merge3D d k, true) := by unfold mergeD; rw [if_neg hg, if_neg h1, if_neg h2]
        rw [e]
        rw [merge3_says hd hw hk hf]
        exact ⟨rfl, hsays.1, hsays.2, by rw [if_pos (by simp [h1])]; exact hl2⟩
end Go.Proofs.Ytfmojgdomficlaa
