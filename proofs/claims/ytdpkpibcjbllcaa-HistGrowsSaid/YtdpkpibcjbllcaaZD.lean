/-
  Texts of one hand, laid together: ExpA, ExpB, ExpC, ExpD.
-/
import Derived.Test.YtdpkpibcjbllcaaZC
import Derived.Laws.Cover3
import Derived.Deep.RegionWith
set_option linter.unusedVariables false
set_option linter.unusedSimpArgs false
/-! The package's functions, first part: Clash, Step, Marks. -/
namespace Go.Proofs.Ytdpkpibcjbllcaa
open Go.RowKit Go.Proofs.YtdpkpibcjbllcaaW.PrintWords

def clashR (l : List News) (srcs : Int) : Int × Int × Int := if plainB l srcs = true then (if (clashOf l).2.2 = true then ((clashOf l).1, (clashOf l).2.1, 0) else (0, 0, 5)) else (0, 0, 2)
set_option maxRecDepth 100000 in
set_option maxHeartbeats 1000000 in
theorem hist_Clash (l : List News) (A : Option Addr) (c : Nat) (srcs : Int) (w : World) (hr : NewsRow w A l.length l) (hc : l.length ≤ c) :
    Calls Try.prog 31 #[.slice A l.length c, .int .i64 srcs] w fun e w' => e = .returned (.tuple #[.int .i64 (clashR l srcs).1, .int .i64 (clashR l srcs).2.1, .int .i64 (clashR l srcs).2.2]) ∧ Below w.heap.size w w' := by
  have Hr := Lib.hid hr
  clear hr
  unfold clashR
  cases hp : plainB l srcs
  · go_enter Try.func31, Try.ntmps31
    go_wp2_with (first | (go_at_call 60; refine (hist_plain l A c srcs _ Hr.out).mono ?_; rintro e w' ⟨rfl, hb⟩))
    go_ret3
    exact ⟨(by first | rfl | (simp; done) | (simp [*]; done)), (by repeat (first | exact Below.refl _ _ | assumption | apply below_alloc | apply below_drew1 | apply pw_below_drewN | refine below_step ?_ (by assumption)))⟩
  · obtain ⟨⟨ci, ck, cb⟩, hco⟩ : ∃ q, clashOf l = q := ⟨_, rfl⟩
    rw [hco]
    have Hco := Lib.hid hco
    clear hco
    cases cb
    · go_enter Try.func31, Try.ntmps31
      go_wp2_with (first | (go_at_call 60; refine (hist_plain l A c srcs _ Hr.out).mono ?_; rintro e w' ⟨rfl, hb⟩) | (go_at_call 61; refine (hist_clash l A c _ (news_later Hr.out (by assumption)) hc).mono ?_; rintro e w2 ⟨i, k, b, rfl, hcl, hb2⟩; (rw [Hco.out] at hcl; obtain ⟨rfl, rfl, rfl⟩ : i = ci ∧ k = ck ∧ b = false := by (simp only [Prod.mk.injEq] at hcl; exact ⟨hcl.1, hcl.2.1, hcl.2.2⟩)); clear hcl))
      go_ret3
      exact ⟨(by first | rfl | (simp; done) | (simp [*]; done)), (by repeat (first | exact Below.refl _ _ | assumption | apply below_alloc | apply below_drew1 | apply pw_below_drewN | refine below_step ?_ (by assumption)))⟩
    · go_enter Try.func31, Try.ntmps31
      go_wp2_with (first | (go_at_call 60; refine (hist_plain l A c srcs _ Hr.out).mono ?_; rintro e w' ⟨rfl, hb⟩) | (go_at_call 61; refine (hist_clash l A c _ (news_later Hr.out (by assumption)) hc).mono ?_; rintro e w2 ⟨i, k, b, rfl, hcl, hb2⟩; (rw [Hco.out] at hcl; obtain ⟨rfl, rfl, rfl⟩ : i = ci ∧ k = ck ∧ b = true := by (simp only [Prod.mk.injEq] at hcl; exact ⟨hcl.1, hcl.2.1, hcl.2.2⟩)); clear hcl))
      go_ret3
      exact ⟨(by first | rfl | (simp; done) | (simp [*]; done)), (by repeat (first | exact Below.refl _ _ | assumption | apply below_alloc | apply below_drew1 | apply pw_below_drewN | refine below_step ?_ (by assumption)))⟩

def OwnPost {α : Type} (d : Kd α) (t : Nat) (w : World) (xs : List α) (e : Ending) (w' : World) : Prop := ∃ v, e = .returned v ∧ Own d t w' w.heap.size v xs ∧ Below w.heap.size w w'
theorem C_none {α : Type} {d : Kd α} {w : World} {n : Nat} {l : List α} (h : Kd.C d w none n l) : l = [] := by
  obtain ⟨h1, _, h3⟩ := h
  cases l with
  | nil => rfl
  | cons a l =>
    have : 0 < n := by simp at h1; omega
    obtain ⟨ad, h, _⟩ := h3 this
    cases h
theorem own_empty {α : Type} (d : Kd α) (e : Nat) (W : World) (base : Nat) (hb : base ≤ W.heap.size) : Own d e (W.alloc (.cells #[] e)) base (.slice (some ⟨W.heap.size, 0, none⟩) 0 0) ([] : List α) := by
  refine ⟨fun _ _ => trivial, [], ?_, Reps.none _ _⟩
  have h2 := World.ownsRow_lit (base := base) (e := e) (size := d.sz) W #[] 0 hb (by simp [maxLen]) (by simp)
  simpa using h2
theorem eql_slice_nil {P : Program} {w : World} (t e : TypeId) (a : Option Addr) (l c : Nat) (h : P.underlying t = some (.slice e)) : (binOp .eql t (.slice a l c) (.slice none 0 0)).run P w = .ok (.bool a.isNone) w := by
  simp only [binOp]
  simp [run_equal_slice_nil w t e a l c h]
set_option maxRecDepth 100000 in
set_option maxHeartbeats 1000000 in
theorem clone_news (l : List News) (A : Option Addr) (c : Nat) (w : World) (hr : NewsRow w A l.length l) (hl : l.length * 56 ≤ 140737488351232) :
    Calls Try.prog 50 #[.slice A l.length c] w (OwnPost kNews 38 w l) := by
  have heq := fun (w : World) (a : Option Addr) (l c : Nat) => eql_slice_nil (w := w) 22 38 a l c Try.underlying22
  cases A with
  | none =>
    obtain rfl := C_none hr
    go_enter Try.func50, Try.ntmps50
    go_wp2
    go_ret
    exact ⟨_, rfl, Kd.R_nil _ _ _ _ _, (by repeat (first | exact Below.refl _ _ | assumption | apply below_alloc | apply below_drew1 | apply pw_below_drewN | refine below_step ?_ (by assumption)))⟩
  | some ad =>
    have Hr := Lib.hid hr
    clear hr
    go_enter Try.func50, Try.ntmps50
    go_wp2_with (at_builtin; refine Kd.R_append_rows kNews (w0 := w) w.heap.size rfl (.tmp 5) (.tmp 6) 22 38 (.agg #[(.int .i64 0), (.int .i64 0), (.int .i64 0), (.int .i64 0), (.int .i64 0), (.int .i64 0), (.int .i64 0)]) 56 rfl Try.underlying22 info_news rfl (by decide) (by omega) _ ([] : List News) l _ _ _ (fun _ => True) (fun _ => False) rfl rfl ?aO ?aR (fun _ _ h => h) (fun _ h => h.elim) ?aF ?aB ?aS ?aL ?_; (case aO => exact own_empty _ _ _ _ (Nat.le_refl _)); (case aR => exact (news_later Hr.out (below_alloc (Below.refl _ _) _))); (case aF => exact (fun _ _ => trivial)); (case aB => exact below_alloc (Below.refl _ _) _); (case aS => exact (by simp)); (case aL => (simp only [List.length_nil]; omega)); intro v7 w7 ho7 hb7 hg7 hat7)
    go_ret
    exact ⟨_, rfl, by simpa using ho7, hb7⟩
set_option maxRecDepth 100000 in
set_option maxHeartbeats 1000000 in
theorem clone_ints (l : List Int) (A : Option Addr) (c : Nat) (w : World) (hr : Kd.C (Kd.int .i64) w A l.length l) (hl : l.length ≤ 1000000) :
    Calls Try.prog 46 #[.slice A l.length c] w (OwnPost (Kd.int .i64) 3 w l) := by
  have heq := fun (w : World) (a : Option Addr) (l c : Nat) => eql_slice_nil (w := w) 27 3 a l c Try.underlying27
  cases A with
  | none =>
    obtain rfl := C_none hr
    go_enter Try.func46, Try.ntmps46
    go_wp2

    go_ret
    exact ⟨_, rfl, Kd.R_nil _ _ _ _ _, (by repeat (first | exact Below.refl _ _ | assumption | apply below_alloc | apply below_drew1 | apply pw_below_drewN | refine below_step ?_ (by assumption)))⟩
  | some ad =>
    have Hr := Lib.hid hr
    clear hr
    go_enter Try.func46, Try.ntmps46
    go_wp2_with (at_builtin; refine Kd.R_append_rows (Kd.int .i64) (w0 := w) w.heap.size rfl (.tmp 5) (.tmp 6) 27 3 (.int .i64 0) 8 rfl Try.underlying27 info_int rfl (by decide) (by omega) _ ([] : List Int) l _ _ _ (fun _ => True) (fun _ => False) rfl rfl ?aO ?aR (fun _ _ h => h) (fun _ h => h.elim) ?aF ?aB ?aS ?aL ?_; (case aO => exact own_empty _ _ _ _ (Nat.le_refl _)); (case aR => exact (Kd.C_below Hr.out (below_alloc (Below.refl _ _) _))); (case aF => exact (fun _ _ => trivial)); (case aB => exact below_alloc (Below.refl _ _) _); (case aS => exact (by simp)); (case aL => (simp only [List.length_nil]; omega)); intro v7 w7 ho7 hb7 hg7 hat7)
    go_ret
    exact ⟨_, rfl, by simpa using ho7, hb7⟩
end Go.Proofs.Ytdpkpibcjbllcaa
set_option linter.unusedVariables false
set_option linter.unusedSimpArgs false
/-! The package's functions, second part: Marks, Step. -/
namespace Go.Proofs.Ytdpkpibcjbllcaa
open Go.RowKit Go.Proofs.YtdpkpibcjbllcaaW.PrintWords

def MarksRes (f : Bool) (M : List Int) (w : World) (e : Ending) (w' : World) : Prop := ∃ v, e = .returned (.tuple #[v, .int .i64 (if f then 0 else 2)]) ∧ Own (Kd.int .i64) 3 w' w.heap.size v (if f then M else []) ∧ Below w.heap.size w w'
def marksOf (l : List News) (srcs : Int) : List Int := (hearAll l).2.take srcs.toNat
theorem ints_C (w : World) (b : Nat) (l : List Int) (h : ∀ j x, l[j]? = some x → w.cell? ⟨b, j, none⟩ = some (.int .i64 x)) (hl : l.length ≤ 9223372036854775807) : Kd.C (Kd.int .i64) w (some ⟨b, 0, none⟩) l.length l := by
  refine ⟨rfl, hl, fun _ => ⟨⟨b, 0, none⟩, rfl, fun j p hj => ⟨[.int .i64 p], rfl, rfl, fun i u hi => ?_⟩⟩⟩
  cases i with
  | zero =>
    obtain rfl : Value.int .i64 p = u := by simpa using hi
    have := h j p hj
    cases j <;> simpa [Addr.add, show (Kd.int .i64).sz = 1 from rfl] using this
  | succ i => simp at hi

set_option maxRecDepth 100000 in
set_option maxHeartbeats 2000000 in
theorem hist_Marks (l : List News) (A : Option Addr) (c : Nat) (srcs : Int) (w : World) (hr : NewsRow w A l.length l) (hc : l.length ≤ c) :
    Calls Try.prog 14 #[.slice A l.length c, .int .i64 srcs] w (MarksRes (formedB l srcs) (marksOf l srcs) w) := by
  have Hr := Lib.hid hr
  clear hr
  cases hf : formedB l srcs
  · go_enter Try.func14, Try.ntmps14
    go_wp2_with (first | (go_at_call 40; (with_reducible refine (hist_formed l A c srcs _ Hr.out hc).mono ?_); rintro e w' ⟨rfl, hb⟩))
    go_ret2
    exact ⟨_, rfl, Kd.R_nil _ _ _ _ _, hb⟩
  · have hsrc := Lib.hid (plainB_heard (formedB_plain hf))
    have hs4 := (plainB_src (formedB_plain hf)).1
    have hM : ∃ M, (hearAll l).2 = M := ⟨_, rfl⟩
    unfold marksOf
    have hf' := Lib.hid hf
    clear hf
    obtain rfl | rfl | rfl | rfl : srcs = 1 ∨ srcs = 2 ∨ srcs = 3 ∨ srcs = 4 := by omega
    · have hf := hf'.out
      go_enter Try.func14, Try.ntmps14
      go_upto_region 3 with (first | (go_at_call 40; (with_reducible refine (hist_formed l A c 1 _ Hr.out hc).mono ?_); rintro e w1 ⟨rfl, hb1⟩))
      go_cut [6] (fun v wc => ∃ b m0 m1 m2 m3, v = .pointer (some ⟨b, 0, none⟩) ∧ Aside ((hearAll l).2 = [m0, m1, m2, m3]) ∧ wc.cell? ⟨b, 0, none⟩ = some (.int .i64 m0) ∧ wc.cell? ⟨b, 1, none⟩ = some (.int .i64 m1) ∧ wc.cell? ⟨b, 2, none⟩ = some (.int .i64 m2) ∧ wc.cell? ⟨b, 3, none⟩ = some (.int .i64 m3) ∧ Aside (Below w.heap.size w wc))
      case first =>
        go_wp2_with (first | (go_at_call 41; (with_reducible refine (hist_all l A c _ (news_later Hr.out hb1) hsrc.out).mono ?_); rintro e w2 ⟨g, b, rfl, hg, hb, hs, hb2⟩; obtain ⟨m0, m1, m2, m3, hm⟩ : ∃ m0 m1 m2 m3, (hearAll l).2 = [m0, m1, m2, m3] := (by have := hs.len; match (hearAll l).2, this with | [a, b, c, d], _ => exact ⟨a, b, c, d, rfl⟩); have h1 := hs.mark 0 (by omega); have h2 := hs.mark 1 (by omega); have h3 := hs.mark 2 (by omega); have h4 := hs.mark 3 (by omega); rw [hm] at h1 h2 h3 h4; simp only [List.getD_cons_zero, List.getD_cons_succ, Nat.reduceAdd] at h1 h2 h3 h4; have HM := Lib.hid hm; clear hm hs))
        go_meet
        case rel => exact ⟨_, m0, m1, m2, m3, rfl, ⟨HM.out⟩, by go_simp, by go_simp, by go_simp, by go_simp, ⟨below_alloc (below_step hb1 hb2) _⟩⟩
      case rest =>
        obtain ⟨b, m0, m1, m2, m3, rfl, hm, h1, h2, h3, h4, hB⟩ := hcut
        have hC : Kd.C (Kd.int .i64) wc (some ⟨b, 0, none⟩) ([m0, m1, m2, m3].take 1).length ([m0, m1, m2, m3].take 1) := ints_C wc b _ (fun j x hj => by
          match j, hj with
          | 0, hj => obtain rfl : m0 = x := by simpa using hj
                     exact h1
          | 1, hj => first | (simp at hj; done) | (obtain rfl : m1 = x := by simpa using hj
                                                   exact h2)
          | 2, hj => first | (simp at hj; done) | (obtain rfl : m2 = x := by simpa using hj
                                                   exact h3)
          | 3, hj => first | (simp at hj; done) | (obtain rfl : m3 = x := by simpa using hj
                                                   exact h4)
          | j + 4, hj => simp at hj) (by simp)
        have HC := Lib.hid hC
        clear hC
        go_wp2_with (first | (go_at_call 46; refine (clone_ints ([m0, m1, m2, m3].take 1) (some ⟨b, 0, none⟩) 4 _ HC.out (by simp)).mono ?_; rintro e w3 ⟨v, rfl, hO, hb3⟩))
        go_ret2
        refine ⟨v, rfl, ?_, below_step hB.out hb3⟩
        rw [hm.out]
        exact own_lower hO hB.out.size
    · have hf := hf'.out
      go_enter Try.func14, Try.ntmps14
      go_upto_region 3 with (first | (go_at_call 40; (with_reducible refine (hist_formed l A c 2 _ Hr.out hc).mono ?_); rintro e w1 ⟨rfl, hb1⟩))
      go_cut [6] (fun v wc => ∃ b m0 m1 m2 m3, v = .pointer (some ⟨b, 0, none⟩) ∧ Aside ((hearAll l).2 = [m0, m1, m2, m3]) ∧ wc.cell? ⟨b, 0, none⟩ = some (.int .i64 m0) ∧ wc.cell? ⟨b, 1, none⟩ = some (.int .i64 m1) ∧ wc.cell? ⟨b, 2, none⟩ = some (.int .i64 m2) ∧ wc.cell? ⟨b, 3, none⟩ = some (.int .i64 m3) ∧ Aside (Below w.heap.size w wc))
      case first =>
        go_wp2_with (first | (go_at_call 41; (with_reducible refine (hist_all l A c _ (news_later Hr.out hb1) hsrc.out).mono ?_); rintro e w2 ⟨g, b, rfl, hg, hb, hs, hb2⟩; obtain ⟨m0, m1, m2, m3, hm⟩ : ∃ m0 m1 m2 m3, (hearAll l).2 = [m0, m1, m2, m3] := (by have := hs.len; match (hearAll l).2, this with | [a, b, c, d], _ => exact ⟨a, b, c, d, rfl⟩); have h1 := hs.mark 0 (by omega); have h2 := hs.mark 1 (by omega); have h3 := hs.mark 2 (by omega); have h4 := hs.mark 3 (by omega); rw [hm] at h1 h2 h3 h4; simp only [List.getD_cons_zero, List.getD_cons_succ, Nat.reduceAdd] at h1 h2 h3 h4; have HM := Lib.hid hm; clear hm hs))
        go_meet
        case rel => exact ⟨_, m0, m1, m2, m3, rfl, ⟨HM.out⟩, by go_simp, by go_simp, by go_simp, by go_simp, ⟨below_alloc (below_step hb1 hb2) _⟩⟩
      case rest =>
        obtain ⟨b, m0, m1, m2, m3, rfl, hm, h1, h2, h3, h4, hB⟩ := hcut
        have hC : Kd.C (Kd.int .i64) wc (some ⟨b, 0, none⟩) ([m0, m1, m2, m3].take 2).length ([m0, m1, m2, m3].take 2) := ints_C wc b _ (fun j x hj => by
          match j, hj with
          | 0, hj => obtain rfl : m0 = x := by simpa using hj
                     exact h1
          | 1, hj => first | (simp at hj; done) | (obtain rfl : m1 = x := by simpa using hj
                                                   exact h2)
          | 2, hj => first | (simp at hj; done) | (obtain rfl : m2 = x := by simpa using hj
                                                   exact h3)
          | 3, hj => first | (simp at hj; done) | (obtain rfl : m3 = x := by simpa using hj
                                                   exact h4)
          | j + 4, hj => simp at hj) (by simp)
        have HC := Lib.hid hC
        clear hC
        go_wp2_with (first | (go_at_call 46; refine (clone_ints ([m0, m1, m2, m3].take 2) (some ⟨b, 0, none⟩) 4 _ HC.out (by simp)).mono ?_; rintro e w3 ⟨v, rfl, hO, hb3⟩))
        go_ret2
        refine ⟨v, rfl, ?_, below_step hB.out hb3⟩
        rw [hm.out]
        exact own_lower hO hB.out.size
    · have hf := hf'.out
      go_enter Try.func14, Try.ntmps14
      go_upto_region 3 with (first | (go_at_call 40; (with_reducible refine (hist_formed l A c 3 _ Hr.out hc).mono ?_); rintro e w1 ⟨rfl, hb1⟩))
      go_cut [6] (fun v wc => ∃ b m0 m1 m2 m3, v = .pointer (some ⟨b, 0, none⟩) ∧ Aside ((hearAll l).2 = [m0, m1, m2, m3]) ∧ wc.cell? ⟨b, 0, none⟩ = some (.int .i64 m0) ∧ wc.cell? ⟨b, 1, none⟩ = some (.int .i64 m1) ∧ wc.cell? ⟨b, 2, none⟩ = some (.int .i64 m2) ∧ wc.cell? ⟨b, 3, none⟩ = some (.int .i64 m3) ∧ Aside (Below w.heap.size w wc))
      case first =>
        go_wp2_with (first | (go_at_call 41; (with_reducible refine (hist_all l A c _ (news_later Hr.out hb1) hsrc.out).mono ?_); rintro e w2 ⟨g, b, rfl, hg, hb, hs, hb2⟩; obtain ⟨m0, m1, m2, m3, hm⟩ : ∃ m0 m1 m2 m3, (hearAll l).2 = [m0, m1, m2, m3] := (by have := hs.len; match (hearAll l).2, this with | [a, b, c, d], _ => exact ⟨a, b, c, d, rfl⟩); have h1 := hs.mark 0 (by omega); have h2 := hs.mark 1 (by omega); have h3 := hs.mark 2 (by omega); have h4 := hs.mark 3 (by omega); rw [hm] at h1 h2 h3 h4; simp only [List.getD_cons_zero, List.getD_cons_succ, Nat.reduceAdd] at h1 h2 h3 h4; have HM := Lib.hid hm; clear hm hs))
        go_meet
        case rel => exact ⟨_, m0, m1, m2, m3, rfl, ⟨HM.out⟩, by go_simp, by go_simp, by go_simp, by go_simp, ⟨below_alloc (below_step hb1 hb2) _⟩⟩
      case rest =>
        obtain ⟨b, m0, m1, m2, m3, rfl, hm, h1, h2, h3, h4, hB⟩ := hcut
        have hC : Kd.C (Kd.int .i64) wc (some ⟨b, 0, none⟩) ([m0, m1, m2, m3].take 3).length ([m0, m1, m2, m3].take 3) := ints_C wc b _ (fun j x hj => by
          match j, hj with
          | 0, hj => obtain rfl : m0 = x := by simpa using hj
                     exact h1
          | 1, hj => first | (simp at hj; done) | (obtain rfl : m1 = x := by simpa using hj
                                                   exact h2)
          | 2, hj => first | (simp at hj; done) | (obtain rfl : m2 = x := by simpa using hj
                                                   exact h3)
          | 3, hj => first | (simp at hj; done) | (obtain rfl : m3 = x := by simpa using hj
                                                   exact h4)
          | j + 4, hj => simp at hj) (by simp)
        have HC := Lib.hid hC
        clear hC
        go_wp2_with (first | (go_at_call 46; refine (clone_ints ([m0, m1, m2, m3].take 3) (some ⟨b, 0, none⟩) 4 _ HC.out (by simp)).mono ?_; rintro e w3 ⟨v, rfl, hO, hb3⟩))
        go_ret2
        refine ⟨v, rfl, ?_, below_step hB.out hb3⟩
        rw [hm.out]
        exact own_lower hO hB.out.size
    · have hf := hf'.out
      go_enter Try.func14, Try.ntmps14
      go_upto_region 3 with (first | (go_at_call 40; (with_reducible refine (hist_formed l A c 4 _ Hr.out hc).mono ?_); rintro e w1 ⟨rfl, hb1⟩))
      go_cut [6] (fun v wc => ∃ b m0 m1 m2 m3, v = .pointer (some ⟨b, 0, none⟩) ∧ Aside ((hearAll l).2 = [m0, m1, m2, m3]) ∧ wc.cell? ⟨b, 0, none⟩ = some (.int .i64 m0) ∧ wc.cell? ⟨b, 1, none⟩ = some (.int .i64 m1) ∧ wc.cell? ⟨b, 2, none⟩ = some (.int .i64 m2) ∧ wc.cell? ⟨b, 3, none⟩ = some (.int .i64 m3) ∧ Aside (Below w.heap.size w wc))
      case first =>
        go_wp2_with (first | (go_at_call 41; (with_reducible refine (hist_all l A c _ (news_later Hr.out hb1) hsrc.out).mono ?_); rintro e w2 ⟨g, b, rfl, hg, hb, hs, hb2⟩; obtain ⟨m0, m1, m2, m3, hm⟩ : ∃ m0 m1 m2 m3, (hearAll l).2 = [m0, m1, m2, m3] := (by have := hs.len; match (hearAll l).2, this with | [a, b, c, d], _ => exact ⟨a, b, c, d, rfl⟩); have h1 := hs.mark 0 (by omega); have h2 := hs.mark 1 (by omega); have h3 := hs.mark 2 (by omega); have h4 := hs.mark 3 (by omega); rw [hm] at h1 h2 h3 h4; simp only [List.getD_cons_zero, List.getD_cons_succ, Nat.reduceAdd] at h1 h2 h3 h4; have HM := Lib.hid hm; clear hm hs))
        go_meet
        case rel => exact ⟨_, m0, m1, m2, m3, rfl, ⟨HM.out⟩, by go_simp, by go_simp, by go_simp, by go_simp, ⟨below_alloc (below_step hb1 hb2) _⟩⟩
      case rest =>
        obtain ⟨b, m0, m1, m2, m3, rfl, hm, h1, h2, h3, h4, hB⟩ := hcut
        have hC : Kd.C (Kd.int .i64) wc (some ⟨b, 0, none⟩) ([m0, m1, m2, m3].take 4).length ([m0, m1, m2, m3].take 4) := ints_C wc b _ (fun j x hj => by
          match j, hj with
          | 0, hj => obtain rfl : m0 = x := by simpa using hj
                     exact h1
          | 1, hj => first | (simp at hj; done) | (obtain rfl : m1 = x := by simpa using hj
                                                   exact h2)
          | 2, hj => first | (simp at hj; done) | (obtain rfl : m2 = x := by simpa using hj
                                                   exact h3)
          | 3, hj => first | (simp at hj; done) | (obtain rfl : m3 = x := by simpa using hj
                                                   exact h4)
          | j + 4, hj => simp at hj) (by simp)
        have HC := Lib.hid hC
        clear hC
        go_wp2_with (first | (go_at_call 46; refine (clone_ints ([m0, m1, m2, m3].take 4) (some ⟨b, 0, none⟩) 4 _ HC.out (by simp)).mono ?_; rintro e w3 ⟨v, rfl, hO, hb3⟩))
        go_ret2
        refine ⟨v, rfl, ?_, below_step hB.out hb3⟩
        rw [hm.out]
        exact own_lower hO hB.out.size
end Go.Proofs.Ytdpkpibcjbllcaa
set_option linter.unusedVariables false
set_option linter.unusedSimpArgs false
/-! The package's functions, third part: Step. -/
namespace Go.Proofs.Ytdpkpibcjbllcaa
open Go.RowKit Go.Proofs.YtdpkpibcjbllcaaW.PrintWords

def StepRes (f : Bool) (a b : List Event) (w : World) (e : Ending) (w' : World) : Prop :=
  ∃ v1 v2, e = .returned (.tuple #[v1, v2, .int .i64 (if f then 0 else 2)]) ∧ Own kEvent 49 w' w.heap.size v1 (if f then a else []) ∧ Own kEvent 49 w' w.heap.size v2 (if f then b else []) ∧ Below w.heap.size w w'
theorem stS_step {W1 W W' : World} {A : Option Addr} {l : List News} {bn : Nat} {n : News} (h : W.cell? ⟨bn, 0, none⟩ = some (.int .i64 n.do_) ∧ W.cell? ⟨bn, 1, none⟩ = some (.int .i64 n.src) ∧ W.cell? ⟨bn, 2, none⟩ = some (.int .i64 n.id) ∧ W.cell? ⟨bn, 3, none⟩ = some (.int .i64 n.ver) ∧ W.cell? ⟨bn, 4, none⟩ = some (.int .i64 n.body.at_) ∧ W.cell? ⟨bn, 5, none⟩ = some (.int .i64 n.body.key) ∧ W.cell? ⟨bn, 6, none⟩ = some (.int .i64 n.body.val) ∧ NewsRow W A l.length l ∧ Below W1.heap.size W1 W) (hb : Below W.heap.size W W') : W'.cell? ⟨bn, 0, none⟩ = some (.int .i64 n.do_) ∧ W'.cell? ⟨bn, 1, none⟩ = some (.int .i64 n.src) ∧ W'.cell? ⟨bn, 2, none⟩ = some (.int .i64 n.id) ∧ W'.cell? ⟨bn, 3, none⟩ = some (.int .i64 n.ver) ∧ W'.cell? ⟨bn, 4, none⟩ = some (.int .i64 n.body.at_) ∧ W'.cell? ⟨bn, 5, none⟩ = some (.int .i64 n.body.key) ∧ W'.cell? ⟨bn, 6, none⟩ = some (.int .i64 n.body.val) ∧ NewsRow W' A l.length l ∧ Below W1.heap.size W1 W' := by
  obtain ⟨h0, h1, h2, h3, h4, h5, h6, h8, h9⟩ := h
  exact ⟨cell_later' hb h0, cell_later' hb h1, cell_later' hb h2, cell_later' hb h3, cell_later' hb h4, cell_later' hb h5, cell_later' hb h6, news_later h8 hb, below_step h9 hb⟩
theorem stS_size {W1 W : World} {A : Option Addr} {l : List News} {bn : Nat} {n : News} (h : W.cell? ⟨bn, 0, none⟩ = some (.int .i64 n.do_) ∧ W.cell? ⟨bn, 1, none⟩ = some (.int .i64 n.src) ∧ W.cell? ⟨bn, 2, none⟩ = some (.int .i64 n.id) ∧ W.cell? ⟨bn, 3, none⟩ = some (.int .i64 n.ver) ∧ W.cell? ⟨bn, 4, none⟩ = some (.int .i64 n.body.at_) ∧ W.cell? ⟨bn, 5, none⟩ = some (.int .i64 n.body.key) ∧ W.cell? ⟨bn, 6, none⟩ = some (.int .i64 n.body.val) ∧ NewsRow W A l.length l ∧ Below W1.heap.size W1 W) : W1.heap.size ≤ W.heap.size := h.2.2.2.2.2.2.2.2.size
theorem lit_news (W : World) (x : News) : NewsRow (W.alloc (.cells #[.int .i64 x.do_, .int .i64 x.src, .int .i64 x.id, .int .i64 x.ver, .int .i64 x.body.at_, .int .i64 x.body.key, .int .i64 x.body.val] 38)) (some ⟨W.heap.size, 0, none⟩) 1 [x] := by
  have h := own_one kNews 38 W 0 (Nat.zero_le _) x [.int .i64 x.do_, .int .i64 x.src, .int .i64 x.id, .int .i64 x.ver, .int .i64 x.body.at_, .int .i64 x.body.key, .int .i64 x.body.val] (fun w => kNews_mkM w _ _ _)
  exact (Kd.R_reads' h).2.2
theorem box_news (W : World) (n : News) : (W.alloc (.cells #[.int .i64 n.do_, .int .i64 n.src, .int .i64 n.id, .int .i64 n.ver, .int .i64 n.body.at_, .int .i64 n.body.key, .int .i64 n.body.val] 38)).cell? ⟨W.heap.size, 0, none⟩ = some (.int .i64 n.do_) ∧ (W.alloc (.cells #[.int .i64 n.do_, .int .i64 n.src, .int .i64 n.id, .int .i64 n.ver, .int .i64 n.body.at_, .int .i64 n.body.key, .int .i64 n.body.val] 38)).cell? ⟨W.heap.size, 1, none⟩ = some (.int .i64 n.src) ∧ (W.alloc (.cells #[.int .i64 n.do_, .int .i64 n.src, .int .i64 n.id, .int .i64 n.ver, .int .i64 n.body.at_, .int .i64 n.body.key, .int .i64 n.body.val] 38)).cell? ⟨W.heap.size, 2, none⟩ = some (.int .i64 n.id) ∧ (W.alloc (.cells #[.int .i64 n.do_, .int .i64 n.src, .int .i64 n.id, .int .i64 n.ver, .int .i64 n.body.at_, .int .i64 n.body.key, .int .i64 n.body.val] 38)).cell? ⟨W.heap.size, 3, none⟩ = some (.int .i64 n.ver) ∧ (W.alloc (.cells #[.int .i64 n.do_, .int .i64 n.src, .int .i64 n.id, .int .i64 n.ver, .int .i64 n.body.at_, .int .i64 n.body.key, .int .i64 n.body.val] 38)).cell? ⟨W.heap.size, 4, none⟩ = some (.int .i64 n.body.at_) ∧ (W.alloc (.cells #[.int .i64 n.do_, .int .i64 n.src, .int .i64 n.id, .int .i64 n.ver, .int .i64 n.body.at_, .int .i64 n.body.key, .int .i64 n.body.val] 38)).cell? ⟨W.heap.size, 5, none⟩ = some (.int .i64 n.body.key) ∧ (W.alloc (.cells #[.int .i64 n.do_, .int .i64 n.src, .int .i64 n.id, .int .i64 n.ver, .int .i64 n.body.at_, .int .i64 n.body.key, .int .i64 n.body.val] 38)).cell? ⟨W.heap.size, 6, none⟩ = some (.int .i64 n.body.val) := by
  refine ⟨by go_simp, by go_simp, by go_simp, by go_simp, by go_simp, by go_simp, by go_simp⟩

set_option maxRecDepth 100000 in
set_option maxHeartbeats 4000000 in
theorem hist_Step (l : List News) (A : Option Addr) (c : Nat) (srcs : Int) (n : News) (w : World) (hr : NewsRow w A l.length l) (hc : l.length ≤ c) (hl : l.length * 56 ≤ 140737488351232) :
    Calls Try.prog 19 #[.slice A l.length c, .int .i64 srcs, .agg #[.int .i64 n.do_, .int .i64 n.src, .int .i64 n.id, .int .i64 n.ver, .int .i64 n.body.at_, .int .i64 n.body.key, .int .i64 n.body.val]] w (StepRes (formedB (l ++ [n]) srcs) (stepOf (hearAll l).1 n).1 (stepOf (hearAll l).1 n).2 w) := by
  obtain ⟨m, hm⟩ : ∃ m, l ++ [n] = m := ⟨_, rfl⟩
  rw [hm]
  have Hm := Lib.hid hm
  clear hm
  obtain ⟨p, hp⟩ : ∃ p, stepOf (hearAll l).1 n = p := ⟨_, rfl⟩
  rw [hp]
  have Hp := Lib.hid hp
  clear hp
  have Hr := Lib.hid hr
  clear hr
  cases hf : formedB m srcs
  all_goals
    have Hf := Lib.hid hf
    go_enter Try.func19, Try.ntmps19
    go_upto_region 1 with (fail)
    have hbx := box_news w n
    have hBa : Below w.heap.size w (w.alloc (.cells #[.int .i64 n.do_, .int .i64 n.src, .int .i64 n.id, .int .i64 n.ver, .int .i64 n.body.at_, .int .i64 n.body.key, .int .i64 n.body.val] 38)) := below_alloc (Below.refl _ _) _
    have hr1 := Lib.hid (news_later Hr.out hBa)
    generalize (w.alloc (.cells #[.int .i64 n.do_, .int .i64 n.src, .int .i64 n.id, .int .i64 n.ver, .int .i64 n.body.at_, .int .i64 n.body.key, .int .i64 n.body.val] 38)) = W1 at *
    generalize hbn : w.heap.size = bn at *
    obtain ⟨i0, i1, i2, i3, i4, i5, i6⟩ := hbx
  · go_cut [16] (fun v wc => v = .bool true ∧ Aside (Below W1.heap.size W1 wc))
    case first =>
      go_region_held3 (fun W => W.cell? ⟨bn, 0, none⟩ = some (.int .i64 n.do_) ∧ W.cell? ⟨bn, 1, none⟩ = some (.int .i64 n.src) ∧ W.cell? ⟨bn, 2, none⟩ = some (.int .i64 n.id) ∧ W.cell? ⟨bn, 3, none⟩ = some (.int .i64 n.ver) ∧ W.cell? ⟨bn, 4, none⟩ = some (.int .i64 n.body.at_) ∧ W.cell? ⟨bn, 5, none⟩ = some (.int .i64 n.body.key) ∧ W.cell? ⟨bn, 6, none⟩ = some (.int .i64 n.body.val) ∧ NewsRow W A l.length l ∧ Below W1.heap.size W1 W)
        (first | assumption | exact stS_step (by assumption) (by assumption) | exact stS_step (by assumption) (below_alloc (Below.refl _ _) _) | exact stS_step ⟨i0, i1, i2, i3, i4, i5, i6, hr1.out, Below.refl _ _⟩ (by repeat (first | exact Below.refl _ _ | assumption | apply below_alloc | apply below_drew1)))
        (first
          | (go_at_call 50; (with_reducible refine (clone_news l A c _ (by go_split_ands; assumption) hl).mono ?_); rintro e w' ⟨v, rfl, hO, hB⟩; have hz := stS_size (by assumption))
          | (go_at_call 40; (with_reducible refine (hist_formed m A7 c7 srcs _ hr7 hc7).mono ?_); rintro e w8 ⟨rfl, hb8⟩)
          | (refine Kd.R_append_rows_step kNews (w0 := W1) W1.heap.size (by rfl) (.tmp 10) (.tmp 12) 22 38 (.agg #[(.int .i64 0), (.int .i64 0), (.int .i64 0), (.int .i64 0), (.int .i64 0), (.int .i64 0), (.int .i64 0)]) 56 rfl Try.underlying22 info_news rfl (by decide) (by omega) _ l [n] _ _ _ (fun _ => True) (fun _ => False) rfl rfl ?aO ?aR (fun _ _ h => h) (fun _ h => h.elim) ?aF ?aB ?aS ?aL ?_; (case aO => first | exact own_lower hO hz | exact own_lower (own_later hO (below_alloc (Below.refl _ _) _)) hz); (case aR => first | exact lit_news _ _ | exact Kd.C_drew (lit_news _ _) | exact Kd.C_below (lit_news _ _) hB | exact Kd.C_below (Kd.C_drew (lit_news _ _)) hB); (case aF => exact (fun _ _ => trivial)); (case aB => go_split_ands; assumption); (case aS => exact stS_size (by assumption)); (case aL => omega); intro v7 w7 ho7 hb7 hg7 hat7; rw [Hm.out] at ho7; obtain ⟨A7, c7, rfl, hc7, hr7⟩ := own_reads' ho7)
          | fail)
      all_goals go_wp2
      all_goals go_meet
      all_goals (case rel => exact ⟨rfl, ⟨by first | exact below_step (by assumption) (by assumption) | assumption⟩⟩)
    case rest =>
      obtain ⟨rfl, hB⟩ := hcut
      subst hbn
      go_wp2
      go_ret3
      exact ⟨_, _, rfl, Kd.R_nil _ _ _ _ _, Kd.R_nil _ _ _ _ _, below_step hBa hB.out⟩
  · go_cut [16] (fun v wc => v = .bool false ∧ Aside (Below W1.heap.size W1 wc))
    case first =>
      go_region_held3 (fun W => W.cell? ⟨bn, 0, none⟩ = some (.int .i64 n.do_) ∧ W.cell? ⟨bn, 1, none⟩ = some (.int .i64 n.src) ∧ W.cell? ⟨bn, 2, none⟩ = some (.int .i64 n.id) ∧ W.cell? ⟨bn, 3, none⟩ = some (.int .i64 n.ver) ∧ W.cell? ⟨bn, 4, none⟩ = some (.int .i64 n.body.at_) ∧ W.cell? ⟨bn, 5, none⟩ = some (.int .i64 n.body.key) ∧ W.cell? ⟨bn, 6, none⟩ = some (.int .i64 n.body.val) ∧ NewsRow W A l.length l ∧ Below W1.heap.size W1 W)
        (first | assumption | exact stS_step (by assumption) (by assumption) | exact stS_step (by assumption) (below_alloc (Below.refl _ _) _) | exact stS_step ⟨i0, i1, i2, i3, i4, i5, i6, hr1.out, Below.refl _ _⟩ (by repeat (first | exact Below.refl _ _ | assumption | apply below_alloc | apply below_drew1)))
        (first
          | (go_at_call 50; (with_reducible refine (clone_news l A c _ (by go_split_ands; assumption) hl).mono ?_); rintro e w' ⟨v, rfl, hO, hB⟩; have hz := stS_size (by assumption))
          | (go_at_call 40; (with_reducible refine (hist_formed m A7 c7 srcs _ hr7 hc7).mono ?_); rintro e w8 ⟨rfl, hb8⟩)
          | (refine Kd.R_append_rows_step kNews (w0 := W1) W1.heap.size (by rfl) (.tmp 10) (.tmp 12) 22 38 (.agg #[(.int .i64 0), (.int .i64 0), (.int .i64 0), (.int .i64 0), (.int .i64 0), (.int .i64 0), (.int .i64 0)]) 56 rfl Try.underlying22 info_news rfl (by decide) (by omega) _ l [n] _ _ _ (fun _ => True) (fun _ => False) rfl rfl ?aO ?aR (fun _ _ h => h) (fun _ h => h.elim) ?aF ?aB ?aS ?aL ?_; (case aO => first | exact own_lower hO hz | exact own_lower (own_later hO (below_alloc (Below.refl _ _) _)) hz); (case aR => first | exact lit_news _ _ | exact Kd.C_drew (lit_news _ _) | exact Kd.C_below (lit_news _ _) hB | exact Kd.C_below (Kd.C_drew (lit_news _ _)) hB); (case aF => exact (fun _ _ => trivial)); (case aB => go_split_ands; assumption); (case aS => exact stS_size (by assumption)); (case aL => omega); intro v7 w7 ho7 hb7 hg7 hat7; rw [Hm.out] at ho7; obtain ⟨A7, c7, rfl, hc7, hr7⟩ := own_reads' ho7)
          | fail)
      all_goals go_wp2
      all_goals go_meet
      all_goals (case rel => exact ⟨rfl, ⟨by first | exact below_step (by assumption) (by assumption) | assumption⟩⟩)
    case rest =>
      obtain ⟨rfl, hB⟩ := hcut
      have hsrcm := plainB_heard (formedB_plain Hf.out)
      have hsrc : Hid (∀ x ∈ l, 0 ≤ x.src ∧ x.src < 4) := Lib.hid (fun x hx => hsrcm x (by rw [← Hm.out]; simp [hx]))
      have hn := hsrcm n (by rw [← Hm.out]; simp)
      obtain ⟨hn0, hn4⟩ := hn
      replace i0 := cell_later' hB.out i0
      replace i1 := cell_later' hB.out i1
      replace i2 := cell_later' hB.out i2
      replace i3 := cell_later' hB.out i3
      replace i4 := cell_later' hB.out i4
      replace i5 := cell_later' hB.out i5
      replace i6 := cell_later' hB.out i6
      have hr2 := Lib.hid (news_later hr1.out hB.out)
      have hBB : Below w.heap.size w wc := by
        subst hbn
        exact below_step hBa hB.out
      have HBB := Lib.hid hBB
      clear hsrcm hBB hr1 hBa hB hf
      generalize W1.heap.size = s1 at *
      clear W1
      generalize hW : wc = W1 at *
      clear hW
      go_upto_region 3 with (fail)
      go_cut [6, 7] (fun v6 v7 wd => Aside (Own kEvent 49 wd w.heap.size v6 p.1) ∧ Aside (Own kEvent 49 wd w.heap.size v7 p.2) ∧ Aside (Below w.heap.size w wd))
      case first =>
        go_region_held3 (fun W => W.cell? ⟨bn, 0, none⟩ = some (.int .i64 n.do_) ∧ W.cell? ⟨bn, 1, none⟩ = some (.int .i64 n.src) ∧ W.cell? ⟨bn, 2, none⟩ = some (.int .i64 n.id) ∧ W.cell? ⟨bn, 3, none⟩ = some (.int .i64 n.ver) ∧ W.cell? ⟨bn, 4, none⟩ = some (.int .i64 n.body.at_) ∧ W.cell? ⟨bn, 5, none⟩ = some (.int .i64 n.body.key) ∧ W.cell? ⟨bn, 6, none⟩ = some (.int .i64 n.body.val) ∧ NewsRow W A l.length l ∧ Below W1.heap.size W1 W)
          (first | assumption | exact stS_step (by assumption) (by assumption) | exact stS_step (by assumption) (below_alloc (Below.refl _ _) _) | exact stS_step ⟨i0, i1, i2, i3, i4, i5, i6, hr2.out, Below.refl _ _⟩ (by repeat (first | exact Below.refl _ _ | assumption | apply below_alloc | apply below_drew1)))
          (first
            | (go_at_call 41; (with_reducible refine (hist_all l A c _ (by go_split_ands; assumption) hsrc.out).mono ?_); rintro e w2 ⟨g, b, rfl, hg, hb, hs, hb2⟩; have hzz := stS_size (by assumption))
            | (go_at_call 51; (with_reducible refine (hist_step g b (hearAll l).1 (hearAll l).2 n _ hs hn0 hn4).mono ?_); rintro e w3 ⟨v1, v2, rfl, hO1, hO2, _, hC⟩; have hbw : Below W1.heap.size W1 w2 := (by go_split_ands; assumption); have hbw3 := hC.below hbw hbw.size (Nat.le_trans hzz hg) (Nat.le_trans hzz hb))
            | fail)
        all_goals go_wp2
        all_goals go_meet
        all_goals (case rel =>
          have hz := HBB.out.size
          have hz2 := hbw.size
          refine ⟨⟨?_⟩, ⟨?_⟩, ⟨below_step HBB.out hbw3⟩⟩
          · rw [← Hp.out]; exact own_lower hO1 (by omega)
          · rw [← Hp.out]; exact own_lower hO2 (by omega))
      case rest =>
        obtain ⟨h6, h7, hB⟩ := hcut
        go_wp2
        go_ret3
        subst hbn
        exact ⟨_, _, rfl, h6.out, h7.out, hB.out⟩
end Go.Proofs.Ytdpkpibcjbllcaa
set_option linter.unusedVariables false
set_option linter.unusedSimpArgs false
/-! The package's functions, fourth part: Late, Keeps. -/
namespace Go.Proofs.Ytdpkpibcjbllcaa
open Go.RowKit Go.Proofs.YtdpkpibcjbllcaaW.PrintWords

def ahE (mk : Int) (e : Event) : Bool := decide (e.body.at_ < mk)
set_option maxHeartbeats 400000 in
theorem hist_late1 (x : Event) (p : Nat) (mk : Int) (w : World) (hp : w.cell? ⟨p, 0, none⟩ = some (.int .i64 mk)) : Calls Try.prog 56 #[.agg #[.int .i64 x.src, .int .i64 x.id, .int .i64 x.body.at_, .int .i64 x.body.key, .int .i64 x.body.val], .pointer (some ⟨p, 0, none⟩)] w fun e w' => e = .returned (.bool (ahE mk x)) ∧ Below w.heap.size w w' := by
  have hpl : p < w.heap.size := World.block_lt_of_cell? w _ hp
  unfold ahE
  go_enter Try.func56, Try.ntmps56
  go_wp2
  go_ret
  exact ⟨rfl, (by repeat (first | exact Below.refl _ _ | assumption | apply below_alloc | apply below_drew1 | apply pw_below_drewN | refine below_step ?_ (by assumption)))⟩
set_option maxRecDepth 100000 in
set_option maxHeartbeats 1000000 in
theorem hist_indexE (l : List Event) (A : Option Addr) (c : Nat) (p : Nat) (mk : Int) (w : World) (hr : Kd.C kEvent w A l.length l) (hp : w.cell? ⟨p, 0, none⟩ = some (.int .i64 mk)) :
    Calls Try.prog 78 #[.slice A l.length c, .func (.func 56) #[] #[.pointer (some ⟨p, 0, none⟩)]] w fun e w' => ∃ r : Int, e = .returned (.int .i64 r) ∧ decide (0 ≤ r) = l.any (ahE mk) ∧ Below w.heap.size w w' := by
  have hm : l.length ≤ 9223372036854775807 := hr.2.1
  have Hp := Lib.hid hp
  have Hr := Lib.hid hr
  clear hp hr
  go_enter Try.func78, Try.ntmps78
  go_wp2
  go_loopw [8] (fun i wr => ∃ k : Nat, k ≤ l.length ∧ i = .int .i64 k ∧ Below w.heap.size w wr ∧ Hid ((l.take k).any (ahE mk) = false)) (fun i _ => l.length - (intOf i).toNat)
  case atStart => exact ⟨0, Nat.zero_le _, rfl, Below.refl _ _, Lib.hid rfl⟩
  case round =>
    obtain ⟨k, hk, rfl, hB, Hany⟩ := hrel
    by_cases hlt : k < l.length
    · obtain ⟨x, ad, hd, htk, hget, rfl, c0, c1, c2, c3, c4⟩ := event_at (Kd.C_below Hr.out hB) k hlt
      have Htk := Lib.hid htk
      have Hget := Lib.hid hget
      clear hd htk hget
      cases hx : ahE mk x
      · go_wp2_with (first | (go_at_call 56; refine (hist_late1 x p mk _ (cell_later' hB Hp.out)).mono ?_; rintro e w' ⟨rfl, hb⟩))
        exact ⟨⟨k + 1, by omega, by go_num, below_step hB hb, Lib.hid (by rw [Htk.out, List.any_append, Hany.out]; simp [hx])⟩, by simp [intOf]; omega⟩
      · go_wp2_with (first | (go_at_call 56; refine (hist_late1 x p mk _ (cell_later' hB Hp.out)).mono ?_; rintro e w' ⟨rfl, hb⟩))
        go_ret
        refine ⟨k, rfl, ?_, below_step hB hb⟩
        have : (l.any (ahE mk)) = true := by
          rw [List.any_eq_true]
          exact ⟨x, List.mem_of_getElem? Hget.out, hx⟩
        rw [this]; simp
    · have hkl : k = l.length := by omega
      go_wp2
      go_ret
      refine ⟨-1, rfl, ?_, hB⟩
      have := Hany.out
      rw [hkl, List.take_length] at this
      rw [this]; rfl
set_option maxRecDepth 100000 in
set_option maxHeartbeats 400000 in
theorem hist_containsE (l : List Event) (A : Option Addr) (c : Nat) (p : Nat) (mk : Int) (w : World) (hr : Kd.C kEvent w A l.length l) (hp : w.cell? ⟨p, 0, none⟩ = some (.int .i64 mk)) :
    Calls Try.prog 55 #[.slice A l.length c, .func (.func 56) #[] #[.pointer (some ⟨p, 0, none⟩)]] w fun e w' => e = .returned (.bool (l.any (ahE mk))) ∧ Below w.heap.size w w' := by
  go_enter Try.func55, Try.ntmps55
  go_wp2_with (first | (go_at_call 78; refine (hist_indexE l A c p mk _ hr hp).mono ?_; rintro e w' ⟨r, rfl, hd, hb⟩))
  go_ret
  exact ⟨by rw [← hd]; rfl, hb⟩

/-- One of the news does not keep the marks. -/
def lateB (s : List (Key × News) × List Int) (n : News) : Bool := ((stepOf s.1 n).1 ++ (stepOf s.1 n).2).any (ahE (s.2.getD n.src.toNat 0))
def lateI : Bool → Nat → List Int
  | true, i => [(i : Int)]
  | false, _ => []
def lateFrom (s : List (Key × News) × List Int) (i : Nat) : List News → List Int
  | [] => []
  | n :: l => lateI (lateB s n) i ++ lateFrom (hear s n) (i + 1) l
def lateOf (l : List News) : List Int := lateFrom ([], [0, 0, 0, 0]) 0 l
theorem lateFrom_snoc (n : News) : ∀ (l : List News) (s : List (Key × News) × List Int) (i : Nat), lateFrom s i (l ++ [n]) = lateFrom s i l ++ lateI (lateB (l.foldl hear s) n) (i + l.length)
  | [], s, i => by simp [lateFrom]
  | m :: l, s, i => by
    simp only [List.cons_append, lateFrom, lateFrom_snoc n l, List.foldl_cons, List.append_assoc, List.length_cons]
    rw [show i + 1 + l.length = i + (l.length + 1) by omega]
theorem lateOf_snoc (l : List News) (n : News) : lateOf (l ++ [n]) = lateOf l ++ lateI (lateB (hearAll l) n) l.length := by
  unfold lateOf hearAll
  rw [lateFrom_snoc]
  simp
theorem lateOf_len (l : List News) : (lateOf l).length ≤ l.length := by
  have key : ∀ (l : List News) (s : List (Key × News) × List Int) (i : Nat), (lateFrom s i l).length ≤ l.length := by
    intro l
    induction l with
    | nil => intro s i; simp [lateFrom]
    | cons n l ih =>
      intro s i
      have := ih (hear s n) (i + 1)
      simp only [lateFrom, List.length_append, List.length_cons]
      cases lateB s n <;> simp [lateI] <;> omega
  exact key _ _ _
theorem stepOf_len (L : List (Key × News)) (n : News) : (stepOf L n).1.length ≤ 1 ∧ (stepOf L n).2.length ≤ 1 := by
  unfold stepOf
  split
  · simp
  · split
    · simp
    · exact ⟨standsK_len _ _, standsK_len _ _⟩

theorem hist_all_nil (w : World) : Calls Try.prog 41 #[.slice none 0 0] w fun e w' => ∃ g b, e = .returned (.pointer (some ⟨g, 0, none⟩)) ∧ w.heap.size ≤ g ∧ w.heap.size ≤ b ∧ HeardAt w' g b (hearAll []).1 (hearAll []).2 ∧ Below w.heap.size w w' :=
  hist_all [] none 0 w (Kd.C_nil _ _) (fun n hn => by simp at hn)
theorem below_lower {B B' : Nat} {w w' : World} (h : Below B w w') (hb : B' ≤ B) : Below B' w w' := ⟨h.os, h.tape, h.output, h.size, fun i hi => h.block i (by omega)⟩
theorem below_trans {B : Nat} {w w1 w2 : World} (h : Below B w w1) (k : Below B w1 w2) : Below B w w2 := ⟨k.os.trans h.os, k.tape.trans h.tape, k.output.trans h.output, Nat.le_trans h.size k.size, fun i hi => (k.block i hi).trans (h.block i hi)⟩
theorem below_cell {B : Nat} {w w' : World} (h : Below B w w') {k o : Nat} {v : Value} (hk : k < B) (hc : w.cell? ⟨k, o, none⟩ = some v) : w'.cell? ⟨k, o, none⟩ = some v := by
  have e := h.block k hk
  simp only [World.cell?] at hc ⊢
  rw [e]; exact hc
theorem HeardAt.below' {B : Nat} {w w' : World} {g b : Nat} {L : List (Key × News)} {M : List Int} (h : HeardAt w g b L M) (hB : Below B w w') (hg : g < B) (hb : b < B) : HeardAt w' g b L M :=
  ⟨h.len, (hB.block g hg).trans h.cells, (hB.block b hb).trans h.map⟩
/-- A row of the call's own beside what has been heard. -/
theorem own_heard {α : Type} {d : Kd α} {e base g b : Nat} {w w1 w2 : World} {v : Value} {xs : List α} {L : List (Key × News)} {M : List Int} (ho : Own d e w base v xs) (hs : HeardAt w g b L M) (hC : Chg g b w w1) (hB : Below w.heap.size w1 w2) (ht : ∀ q, q ∈ e :: d.E → q ≠ 65) : Own d e w2 base v xs := by
  have h1 := Kd.R_bound ho
  have hne : ∀ k, (True ∧ base ≤ k ∧ k < w.heap.size ∧ ∃ q, q ∈ e :: d.E ∧ ∃ cells, w.heap[k]? = some (.cells cells q (0, 0))) → k < w.heap.size ∧ w2.heap[k]? = w.heap[k]? := by
    rintro k ⟨_, _, hk, q, hq, cells, hc⟩
    refine ⟨hk, (hB.block k hk).trans (hC.block k hk ?_ ?_)⟩
    · intro e
      rw [e, hs.cells] at hc
      injection hc with hc
      injection hc with h1 h2
      exact ht q hq h2.symm
    · intro e
      rw [e, hs.map] at hc
      simp [mapObj] at hc
  exact Kd.R_mono (Kd.R_move h1 (fun k hk => (hne k hk).2)) (fun _ _ => trivial)
theorem lateS_step {W1 W W' : World} {g bn : Nat} {n : News} {mk : Int} (h : W.cell? ⟨bn, 1, none⟩ = some (.int .i64 n.src) ∧ W.cell? ⟨g, 1 + n.src.toNat, none⟩ = some (.int .i64 mk) ∧ Below W1.heap.size W1 W) (hb : Below W.heap.size W W') : W'.cell? ⟨bn, 1, none⟩ = some (.int .i64 n.src) ∧ W'.cell? ⟨g, 1 + n.src.toNat, none⟩ = some (.int .i64 mk) ∧ Below W1.heap.size W1 W' := by
  obtain ⟨h0, h1, h2⟩ := h
  exact ⟨cell_later' hb h0, cell_later' hb h1, below_step h2 hb⟩
set_option maxRecDepth 100000 in
set_option maxHeartbeats 4000000 in
theorem hist_Late (l : List News) (A : Option Addr) (c : Nat) (srcs : Int) (w : World) (hr : NewsRow w A l.length l) (hc : l.length ≤ c) :
    Calls Try.prog 24 #[.slice A l.length c, .int .i64 srcs] w (MarksRes (formedB l srcs) (lateOf l) w) := by
  have Hr := Lib.hid hr
  clear hr
  cases hf : formedB l srcs
  · go_enter Try.func24, Try.ntmps24
    go_wp2_with (first | (go_at_call 40; (with_reducible refine (hist_formed l A c srcs _ Hr.out hc).mono ?_); rintro e w' ⟨rfl, hb⟩))
    go_ret2
    exact ⟨_, rfl, Kd.R_nil _ _ _ _ _, hb⟩
  · have hsrc := Lib.hid (plainB_heard (formedB_plain hf))
    have hlen := (plainB_src (formedB_plain hf)).2.1
    go_enter Try.func24, Try.ntmps24
    go_upto_region 5 with (first | (go_at_call 40; (with_reducible refine (hist_formed l A c srcs _ Hr.out hc).mono ?_); rintro e w1 ⟨rfl, hb1⟩) | (go_at_call 41; (with_reducible refine (hist_all_nil _).mono ?_); rintro e w2 ⟨g, b, rfl, hg, hb, hs, hb2⟩))
    have hB := below_step hb1 hb2
    have hwg : w.heap.size ≤ g := Nat.le_trans hb1.size hg
    have hwb : w.heap.size ≤ b := Nat.le_trans hb1.size hb
    clear hb1 hb2 hg hb
    go_wp2
    go_loopw [7, 20] (fun v i wr => ∃ k : Nat, k ≤ l.length ∧ i = .int .i64 k ∧ HeardAt wr g b (hearAll (l.take k)).1 (hearAll (l.take k)).2 ∧ Own (Kd.int .i64) 3 wr w.heap.size v (lateOf (l.take k)) ∧ Below w.heap.size w wr) (fun _ i _ => l.length - (intOf i).toNat)
    case atStart => exact ⟨0, Nat.zero_le _, rfl, hs, Kd.R_nil _ _ _ _ _, hB⟩
    case round =>
      obtain ⟨k, hk, rfl, hs, hO, hB⟩ := hrel
      by_cases hlt : k < l.length
      · obtain ⟨n, ad, hd, htk, hget, rfl, c0, c1, c2, c3, c4, c5, c6⟩ := news_at (news_later Hr.out hB) k hlt
        have hn := hsrc.out n (List.mem_of_getElem? hget)
        obtain ⟨hn0, hn4⟩ := hn
        have hsn := Lib.hid (hearAll_snoc (l.take k) n)
        have hln := Lib.hid (lateOf_snoc (l.take k) n)
        rw [← htk] at hsn hln
        have hlk : (l.take k).length = k := by rw [List.length_take]; omega
        have Hlk := Lib.hid hlk
        have hlo : (lateOf (l.take k)).length ≤ 60 := by
          have := lateOf_len (l.take k)
          omega
        clear hd htk hget hlk
        have HO := Lib.hid hO
        clear hO
        generalize hearAll (l.take k) = s at *
        generalize lateOf (l.take k) = lo at *
        go_upto_region 8 with (fail)
        have hbx := box_news wr n
        have hBa : Below wr.heap.size wr (wr.alloc (.cells #[.int .i64 n.do_, .int .i64 n.src, .int .i64 n.id, .int .i64 n.ver, .int .i64 n.body.at_, .int .i64 n.body.key, .int .i64 n.body.val] 38)) := below_alloc (Below.refl _ _) _
        have hsA := hs.later hBa
        have hBA := below_step hB hBa
        have HO2 := Lib.hid (own_later HO.out hBa)
        obtain ⟨i0, i1, i2, i3, i4, i5, i6⟩ := hbx
        have hmk := hsA.mark n.src.toNat (by omega)
        have hwr := hB.size
        clear hBa HO c0 c1 c2 c3 c4 c5 c6 hs hB
        generalize (wr.alloc (.cells #[.int .i64 n.do_, .int .i64 n.src, .int .i64 n.id, .int .i64 n.ver, .int .i64 n.body.at_, .int .i64 n.body.key, .int .i64 n.body.val] 38)) = W1 at *
        generalize wr.heap.size = bn at *
        go_cut [10] (fun v10 wc => ∃ p, v10 = .pointer (some ⟨p, 0, none⟩) ∧ wc.cell? ⟨p, 0, none⟩ = some (.int .i64 (s.2.getD n.src.toNat 0)) ∧ p ≠ g ∧ p ≠ b ∧ Aside (Below W1.heap.size W1 wc))
        case first =>
          have hgW : g < W1.heap.size := World.block_lt_of_cell? _ _ hmk
          have hbW : b < W1.heap.size := (Array.getElem?_eq_some_iff.1 hsA.map).1
          generalize s.2.getD n.src.toNat 0 = mk at *
          go_region_held3 (fun W => W.cell? ⟨bn, 1, none⟩ = some (.int .i64 n.src) ∧ W.cell? ⟨g, 1 + n.src.toNat, none⟩ = some (.int .i64 mk) ∧ Below W1.heap.size W1 W)
            (first | assumption | exact lateS_step (by assumption) (below_alloc (Below.refl _ _) _) | exact lateS_step ⟨i1, hmk, Below.refl _ _⟩ (by repeat (first | exact Below.refl _ _ | assumption | apply below_alloc | apply below_drew1)))
            (fail)
          all_goals go_wp2
          all_goals go_meet
          all_goals (case rel => exact ⟨_, rfl, by go_simp, by (first | omega | (simp; omega)), by (first | omega | (simp; omega)), ⟨(by repeat (first | exact Below.refl _ _ | assumption | apply below_alloc | apply below_drew1 | apply pw_below_drewN | refine below_step ?_ (by assumption)))⟩⟩)
        case rest =>
          obtain ⟨p, rfl, hpc, hpg, hpb, hBc⟩ := hcut
          replace i0 := cell_later' hBc.out i0
          replace i1 := cell_later' hBc.out i1
          replace i2 := cell_later' hBc.out i2
          replace i3 := cell_later' hBc.out i3
          replace i4 := cell_later' hBc.out i4
          replace i5 := cell_later' hBc.out i5
          replace i6 := cell_later' hBc.out i6
          have hsB := hsA.later hBc.out
          have hB2 := below_step hBA hBc.out
          have HO3 := Lib.hid (own_later HO2.out hBc.out)
          clear hsA hBA HO2 hBc hmk
          go_upto_region 10 with (first | (go_at_call 51; (with_reducible refine (hist_step g b s.1 s.2 n _ hsB hn0 hn4).mono ?_); rintro e w3 ⟨v1, v2, rfl, hO1, hO2, hs3, hC⟩))
          have hpl0 : p < wc.heap.size := World.block_lt_of_cell? _ _ hpc
          have hsl := stepOf_len s.1 n
          replace hpc := hC.cell hpc hpg hpb
          have hzc := hC.size
          have hs3' : HeardAt w3 g b (hearAll (l.take (k + 1))).1 (hearAll (l.take (k + 1))).2 := by rw [hsn.out]; exact hs3
          have hB3 := hC.below hB2 hB2.size hwg hwb
          have hgc : g < wc.heap.size := (Array.getElem?_eq_some_iff.1 hsB.cells).1
          have hbc : b < wc.heap.size := (Array.getElem?_eq_some_iff.1 hsB.map).1
          have hpw : p < w3.heap.size := World.block_lt_of_cell? _ _ hpc
          have hpl : p < wc.heap.size := hpl0
          have hO4 := Lib.hid (own_heard HO3.out hsB hC (Below.refl _ _) (by intro q hq; simp [show (Kd.int .i64).E = [] from rfl] at hq; omega))
          obtain ⟨A2, c2, rfl, hc2, hr2⟩ := own_reads' hO2
          have HO1 := Lib.hid hO1
          obtain ⟨hsl1, hsl2⟩ := hsl
          clear i0 i1 i2 i3 i4 i5 i6 hs3 hO1 hO2
          obtain ⟨ab, hab⟩ : ∃ ab, (stepOf s.1 n).1 ++ (stepOf s.1 n).2 = ab := ⟨_, rfl⟩
          have hlB : lateB s n = ab.any (ahE (s.2.getD n.src.toNat 0)) := by rw [← hab]; rfl
          have Hab := Lib.hid hab
          clear hab
          have hmf : ∀ (fn : Fn) (first cap : Array Value) (w : World), (Instr.makeFunc fn first cap).run Try.prog w = .ok (.func fn first cap) w := fun _ _ _ _ => rfl
          generalize s.2.getD n.src.toNat 0 = mk at *
          go_cut [42] (fun v42 wd => v42 = .bool (ab.any (ahE mk)) ∧ Aside (Below wc.heap.size w3 wd))
          case first =>
            go_wp2_with (first
              | (at_builtin; refine Kd.R_append_rows kEvent (w0 := w3) wc.heap.size rfl (.tmp 38) (.tmp 39) 23 49 (.agg #[(.int .i64 0), (.int .i64 0), (.int .i64 0), (.int .i64 0), (.int .i64 0)]) 40 rfl Try.underlying23 info_event rfl (by decide) (by omega) _ (stepOf s.1 n).1 (stepOf s.1 n).2 _ _ _ (fun _ => True) (fun _ => False) rfl rfl ?aO ?aR (fun _ _ h => h) (fun _ h => h.elim) ?aF ?aB ?aS ?aL ?_; (case aO => exact HO1.out); (case aR => exact hr2); (case aF => exact (fun _ _ => trivial)); (case aB => exact Below.refl _ _); (case aS => exact hzc); (case aL => omega); intro v7 w7 ho7 hb7 hg7 hat7; rw [Hab.out] at ho7; obtain ⟨A7, c7, rfl, hc7, hr7⟩ := own_reads' ho7; have hpc7 := below_cell hb7 hpl hpc; have Hr7 := Lib.hid hr7; clear hr7 ho7 hat7 hg7)
              | (go_at_call 55; (with_reducible refine (hist_containsE ab A7 c7 p mk _ Hr7.out hpc7).mono ?_); rintro e w8 ⟨rfl, hb8⟩))
            go_meet
            case rel => exact ⟨rfl, ⟨below_trans hb7 (below_lower hb8 (Nat.le_trans hzc hb7.size))⟩⟩
          case rest =>
            obtain ⟨rfl, hBd⟩ := hcut
            have hs8 := hs3'.below' hBd.out hgc hbc
            have hB8 := below_trans hB3 (below_lower hBd.out hB2.size)
            have hO8 := Lib.hid (own_heard HO3.out hsB hC hBd.out (by intro q hq; simp [show (Kd.int .i64).E = [] from rfl] at hq; omega))
            clear hs3' hB3 hO4 hBd hsB hC hr2 HO1 HO3 hpc
            rw [← hlB]
            cases hlb : lateB s n
            · have hln' : lateOf (l.take (k + 1)) = lo := by rw [hln.out, hlb]; simp [lateI]
              have Hln := Lib.hid hln'
              clear hln'
              go_wp2
              exact ⟨⟨k + 1, by omega, by go_num, hs8, by rw [Hln.out]; exact hO8.out, hB8⟩, by simp [intOf]; omega⟩
            · have hln' : lateOf (l.take (k + 1)) = lo ++ [(k : Int)] := by rw [hln.out, hlb, Hlk.out]; simp [lateI]
              have Hln := Lib.hid hln'
              clear hln'
              go_wp2_with (at_builtin; refine Kd.R_append (Kd.int .i64) (w0 := w) w.heap.size rfl (.tmp 43) (.tmp 45) 27 3 (.int .i64 0) 8 rfl Try.underlying27 info_int rfl (by decide) (by omega) _ lo (k : Int) [.int .i64 (k : Int)] (fun _ => True) (fun _ => False) rfl rfl ?aP (fun _ hk => hk.elim) ?aF ?aO ?aB ?aS ?aL ?_; (case aP => rfl); (case aF => exact (fun _ _ => trivial)); (case aO => exact hO8.out); (case aB => exact hB8); (case aS => exact hB8.size); (case aL => omega); intro v9 w9 ho9 hb9 hg9 hat9)
              have hs9 := hs8.grown hg9 (ne_ownBlock hO8.out hs8.cells (fun c h => by cases h)) (ne_ownBlock hO8.out hs8.map (fun c h => by simp [mapObj] at h))
              exact ⟨⟨k + 1, by omega, by go_num, hs9, by rw [Hln.out]; exact ho9, hb9⟩, by simp [intOf]; omega⟩
      · have hkl : l.take k = l := by rw [List.take_of_length_le (by omega)]
        rw [hkl] at hO
        have HO := Lib.hid hO
        clear hO hs hkl
        go_wp2
        go_ret2
        exact ⟨_, rfl, HO.out, hB⟩
end Go.Proofs.Ytdpkpibcjbllcaa
