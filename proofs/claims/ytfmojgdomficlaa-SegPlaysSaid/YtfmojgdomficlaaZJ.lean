/-
  Texts of one hand, laid together: SegSays, SegFour, EqSeg, SegWholeC, SegLit, SegKnownK, SegKnownW.
-/
import Derived.Test.YtfmojgdomficlaaZI
import Derived.Test.YtfmojgdomficlaaZB
set_option linter.unusedVariables false
set_option linter.unusedSimpArgs false
/-! The laws' small functions. -/
namespace Go.Proofs.Ytfmojgdomficlaa
open Go.RowKit Go.Shelf Go.Proofs.YtfmojgdomficlaaW.PrintWords

set_option maxRecDepth 100000 in
theorem law_Mark (a : Int) (w : World) : Calls Try.prog 41 #[.int .i64 a] w fun e w' => e = .returned (.agg #[.int .i64 3, .int .i64 0, .int .i64 0, .int .i64 0, .int .i64 a, .int .i64 0, .int .i64 0]) ∧ Below w.heap.size w w' := by
  go_enter Try.func41, Try.ntmps41
  go_wp2
  exact bodyPost_ret (v := .agg #[.int .i64 3, .int .i64 0, .int .i64 0, .int .i64 0, .int .i64 a, .int .i64 0, .int .i64 0]) (by simp [results, Try.results41, go_sem]) rfl ⟨rfl, (by repeat (first | exact Below.refl _ _ | assumption | apply below_alloc | apply below_drew1 | apply pw_below_drewN | refine below_step ?_ (by assumption)))⟩
set_option maxRecDepth 100000 in
theorem law_do (a : Int) (w : World) : Calls Try.prog 30 #[.int .i64 a] w fun e w' => e = .returned (.agg #[.int .i64 a, .int .i64 0, .int .i64 0, .bool false, .int .i64 0, .int .i64 0, .int .i64 0, .int .i64 0, .int .i64 0, .int .i64 0, .int .i64 0]) ∧ Below w.heap.size w w' := by
  go_enter Try.func30, Try.ntmps30
  go_wp2
  exact bodyPost_ret (v := .agg #[.int .i64 a, .int .i64 0, .int .i64 0, .bool false, .int .i64 0, .int .i64 0, .int .i64 0, .int .i64 0, .int .i64 0, .int .i64 0, .int .i64 0]) (by simp [results, Try.results30, go_sem]) rfl ⟨rfl, (by repeat (first | exact Below.refl _ _ | assumption | apply below_alloc | apply below_drew1 | apply pw_below_drewN | refine below_step ?_ (by assumption)))⟩
set_option maxRecDepth 100000 in
theorem law_crash (k : Int) (t : Bool) (w : World) : Calls Try.prog 33 #[.int .i64 k, .bool t] w fun e w' => e = .returned (.agg #[.int .i64 5, .int .i64 k, .int .i64 0, .bool t, .int .i64 0, .int .i64 0, .int .i64 0, .int .i64 0, .int .i64 0, .int .i64 0, .int .i64 0]) ∧ Below w.heap.size w w' := by
  go_enter Try.func33, Try.ntmps33
  go_wp2
  exact bodyPost_ret (v := .agg #[.int .i64 5, .int .i64 k, .int .i64 0, .bool t, .int .i64 0, .int .i64 0, .int .i64 0, .int .i64 0, .int .i64 0, .int .i64 0, .int .i64 0]) (by simp [results, Try.results33, go_sem]) rfl ⟨rfl, (by repeat (first | exact Below.refl _ _ | assumption | apply below_alloc | apply below_drew1 | apply pw_below_drewN | refine below_step ?_ (by assumption)))⟩
set_option maxRecDepth 100000 in
theorem law_write (n : News) (w : World) : Calls Try.prog 37 #[.agg #[.int .i64 n.do_, .int .i64 n.src, .int .i64 n.id, .int .i64 n.ver, .int .i64 n.body.at_, .int .i64 n.body.key, .int .i64 n.body.val]] w fun e w' => e = .returned (.agg #[.int .i64 1, .int .i64 0, .int .i64 0, .bool false, .int .i64 n.do_, .int .i64 n.src, .int .i64 n.id, .int .i64 n.ver, .int .i64 n.body.at_, .int .i64 n.body.key, .int .i64 n.body.val]) ∧ Below w.heap.size w w' := by
  go_enter Try.func37, Try.ntmps37
  go_wp2
  exact bodyPost_ret (v := .agg #[.int .i64 1, .int .i64 0, .int .i64 0, .bool false, .int .i64 n.do_, .int .i64 n.src, .int .i64 n.id, .int .i64 n.ver, .int .i64 n.body.at_, .int .i64 n.body.key, .int .i64 n.body.val]) (by simp [results, Try.results37, go_sem]) rfl ⟨rfl, (by repeat (first | exact Below.refl _ _ | assumption | apply below_alloc | apply below_drew1 | apply pw_below_drewN | refine below_step ?_ (by assumption)))⟩
set_option maxRecDepth 100000 in
theorem law_Say (id ver : Int) (w : World) (h0 : 0 ≤ ver) (h1 : ver ≤ 1000) : Calls Try.prog 38 #[.int .i64 id, .int .i64 ver] w fun e w' => e = .returned (.agg #[.int .i64 1, .int .i64 0, .int .i64 id, .int .i64 ver, .int .i64 (10 + ver), .int .i64 0, .int .i64 0]) ∧ Below w.heap.size w w' := by
  have hw : IntKind.i64.wrap (10 + ver) = 10 + ver := IntWalk.i64_in _ (by omega)
  go_enter Try.func38, Try.ntmps38
  go_wp2
  exact bodyPost_ret (v := .agg #[.int .i64 1, .int .i64 0, .int .i64 id, .int .i64 ver, .int .i64 (10 + ver), .int .i64 0, .int .i64 0]) (by simp [results, Try.results38, go_sem, sayN, hw]) rfl ⟨rfl, (by repeat (first | exact Below.refl _ _ | assumption | apply below_alloc | apply below_drew1 | apply pw_below_drewN | refine below_step ?_ (by assumption)))⟩
end Go.Proofs.Ytfmojgdomficlaa
set_option linter.unusedVariables false
set_option linter.unusedSimpArgs false
/-! Literal rows of steps. -/
namespace Go.Proofs.Ytfmojgdomficlaa
open Go.RowKit Go.Shelf Go.Proofs.YtfmojgdomficlaaW.PrintWords

theorem flat_get {α : Type} (f : α → List Value) (m : Nat) (hm : ∀ x, (f x).length = m) : ∀ (l : List α) (j i : Nat) (x : α), l[j]? = some x → i < m → (l.flatMap f)[j * m + i]? = (f x)[i]?
  | [], j, i, x, h, _ => by simp at h
  | y :: l, 0, i, x, h, hi => by
    obtain rfl : y = x := by simpa using h
    rw [List.flatMap_cons, Nat.zero_mul, Nat.zero_add, List.getElem?_append_left (by rw [hm]; exact hi)]
  | y :: l, j + 1, i, x, h, hi => by
    rw [List.flatMap_cons, List.getElem?_append_right (by rw [hm, Nat.add_mul]; omega), hm, show (j + 1) * m + i - m = j * m + i by rw [Nat.add_mul]; omega]
    exact flat_get f m hm l j i x (by simpa using h) hi
def stepCells (s : SStep) : List Value := [.int .i64 s.do_, .int .i64 s.k, .int .i64 s.stop, .bool s.torn, .int .i64 s.news.do_, .int .i64 s.news.src, .int .i64 s.news.id, .int .i64 s.news.ver, .int .i64 s.news.body.at_, .int .i64 s.news.body.key, .int .i64 s.news.body.val]
/-- A row of steps as a block holds it. -/
theorem steps_row (w : World) (B : Nat) (l : List SStep) (hl : l.length ≤ 1000) (cs : Array Value) (t : TypeId) (hcs : cs = (l.flatMap stepCells).toArray) (h : Cells w B cs t) : StepsRow w (some ⟨B, 0, none⟩) l.length l :=
  ⟨rfl, by omega, fun _ => ⟨_, rfl, fun j p hj => ⟨stepCells p, rfl, kStep_mk w p, fun i u hu => by
    have hi : i < 11 := (List.getElem?_eq_some_iff.1 hu).1
    have h1 := flat_get stepCells 11 (fun _ => rfl) l j i p hj hi
    rw [hu] at h1
    have h2 := h.cell (j * 11 + i) u (by rw [hcs]; simpa using h1)
    rw [add_plain]
    exact h2⟩⟩⟩
set_option maxRecDepth 100000 in
set_option maxHeartbeats 4000000 in
theorem law_four (w : World) : Calls Try.prog 39 #[] w fun e w' => ∃ A c, e = .returned (.slice A fourS.length c) ∧ fourS.length ≤ c ∧ StepsRow w' A fourS.length fourS ∧ Below w.heap.size w w' := by
  go_enter Try.func39, Try.ntmps39
  have HB := Below.refl w.heap.size w
  go_wp2_with (first
    | (go_at_call 38; refine (law_Say _ _ _ (by decide) (by decide)).mono ?_; rintro e w2 ⟨rfl, hb2⟩; have HB := below_step HB hb2; clear hb2)
    | (go_at_call 37; refine (law_write ⟨_, _, _, _, ⟨_, _, _⟩⟩ _).mono ?_; rintro e w2 ⟨rfl, hb2⟩; have HB := below_step HB hb2; clear hb2)
    | (go_at_call 30; refine (law_do _ _).mono ?_; rintro e w2 ⟨rfl, hb2⟩; have HB := below_step HB hb2; clear hb2)
    | (go_at_call 41; refine (law_Mark _ _).mono ?_; rintro e w2 ⟨rfl, hb2⟩; have HB := below_step HB hb2; clear hb2))
  go_ret
  exact ⟨_, _, rfl, Nat.le_refl _, steps_row _ _ fourS (by decide) _ _ (by rfl) (Cells.new w2 _ _), below_alloc HB _⟩
end Go.Proofs.Ytfmojgdomficlaa
set_option linter.unusedVariables false
set_option linter.unusedSimpArgs false
/-! Two slices are compared. (Printed by gen_eqwalk.py.) -/
namespace Go.Proofs.Ytfmojgdomficlaa
open Go.RowKit Go.Proofs.YtfmojgdomficlaaW.PrintWords

theorem bool_at {w : World} {A : Option Addr} {n : Nat} {l : List Bool} (h : Kd.C Kd.bool w A n l) (k : Nat) (hk : k < n) : ∃ x ad, l.drop k = x :: l.drop (k + 1) ∧ l.take (k + 1) = l.take k ++ [x] ∧ l[k]? = some x ∧ A = some ad ∧ w.cell? (ad.add k) = some (.bool x) := by
  obtain ⟨x, c, ad, h1, h2, h3, h4, h5, h6⟩ := row_at h k hk
  obtain rfl : c = [.bool x] := h5
  have h7 := h6 0 _ rfl
  have e : k * Kd.bool.sz + 0 = k := by rw [show Kd.bool.sz = 1 from rfl, Nat.mul_one]; rfl
  exact ⟨x, ad, h1, h2, h3, h4, e ▸ h7⟩
set_option maxRecDepth 100000 in
set_option maxHeartbeats 1000000 in
theorem eq_news (l m : List News) (A B : Option Addr) (c1 c2 : Nat) (w : World) (hl : Kd.C kNews w A l.length l) (hm : Kd.C kNews w B m.length m) :
    Calls Try.prog 34 #[.slice A l.length c1, .slice B m.length c2] w fun e w' => e = .returned (.bool (decide (l = m))) ∧ Below w.heap.size w w' := by
  have hll : l.length ≤ 9223372036854775807 := hl.2.1
  have hmm : m.length ≤ 9223372036854775807 := hm.2.1
  have Hl := Lib.hid hl
  have Hm := Lib.hid hm
  clear hl hm
  obtain ⟨r, hr⟩ : ∃ r, decide (l = m) = r := ⟨_, rfl⟩
  rw [hr]
  have HR := Lib.hid hr
  clear hr
  by_cases hlen : l.length = m.length
  · have Hlen := Lib.hid hlen
    have hlb : ((l.length : Int) != (m.length : Int)) = false := by simp [hlen]
    have hlb2 : ((l.length : Int) == (m.length : Int)) = true := by simp [hlen]
    have hlm : l.length ≤ m.length := by omega
    have hml : m.length ≤ l.length := by omega
    clear hlen
    go_enter Try.func34, Try.ntmps34
    go_wp2
    go_loopw [13] (fun i wr => ∃ k : Nat, k ≤ l.length ∧ i = .int .i64 k ∧ Below w.heap.size w wr ∧ Hid (l.take k = m.take k)) (fun i _ => l.length - (intOf i).toNat)
    case atStart => exact ⟨0, Nat.zero_le _, rfl, Below.refl _ _, Lib.hid rfl⟩
    case round =>
      obtain ⟨k, hk, rfl, hB, He⟩ := hrel
      by_cases hlt : k < l.length
      · obtain ⟨x, ad, _, htk, hget, rfl, c0, c1, c2, c3, c4, c5, c6⟩ := news_at (Kd.C_below Hl.out hB) k hlt
        obtain ⟨y, ad2, _, htk2, hget2, rfl, d0, d1, d2, d3, d4, d5, d6⟩ := news_at (Kd.C_below Hm.out hB) k (by omega)
        have hkm : k < m.length := by omega
        have Htk := Lib.hid htk
        have Htk2 := Lib.hid htk2
        have Hg := Lib.hid hget
        have Hg2 := Lib.hid hget2
        clear htk htk2 hget hget2
        cases he : newsEq ⟨x.do_, x.src, x.id, x.ver, ⟨x.body.at_, x.body.key, x.body.val⟩⟩ ⟨y.do_, y.src, y.id, y.ver, ⟨y.body.at_, y.body.key, y.body.val⟩⟩
        · have hxy : Hid (x ≠ y) := Lib.hid (of_decide_eq_false (p := x = y) he)
          go_wp2
          go_quiet (fail)
          go_wp2
          go_ret
          refine ⟨?_, pw_below_drewN hB _⟩
          rw [← HR.out]
          have : ¬ l = m := by
            intro e
            have h1 := Hg.out
            rw [e, Hg2.out] at h1
            exact hxy.out (Option.some.inj h1).symm
          simp [this]
        · have hxy : Hid (x = y) := Lib.hid (of_decide_eq_true (p := x = y) he)
          go_wp2
          go_quiet (fail)
          go_wp2
          exact ⟨⟨k + 1, by omega, by go_num, pw_below_drewN hB _, Lib.hid (by rw [Htk.out, Htk2.out, He.out, hxy.out])⟩, by simp [intOf]; omega⟩
      · have hkl : k = l.length := by omega
        have hlm' : l = m := by
          have h := He.out
          rw [hkl, List.take_length, Hlen.out, List.take_length] at h
          exact h
        have Hlm := Lib.hid hlm'
        clear hkl hlm'
        go_wp2
        go_ret
        refine ⟨?_, hB⟩
        rw [← HR.out]
        simp [Hlm.out]
  · have hlb : ((l.length : Int) != (m.length : Int)) = true := by simp; omega
    have hlb2 : ((l.length : Int) == (m.length : Int)) = false := by simp; omega
    have Hlen := Lib.hid hlen
    clear hlen
    go_enter Try.func34, Try.ntmps34
    go_wp2
    go_ret
    refine ⟨?_, Below.refl _ _⟩
    rw [← HR.out]
    have : ¬ l = m := fun e => Hlen.out (by rw [e])
    simp [this]

set_option maxRecDepth 100000 in
set_option maxHeartbeats 1000000 in
theorem same_news (l m : List News) (A B : Option Addr) (c1 c2 : Nat) (w : World) (hl : Kd.C kNews w A l.length l) (hm : Kd.C kNews w B m.length m) :
    Calls Try.prog 20 #[.slice A l.length c1, .slice B m.length c2] w fun e w' => e = .returned (.bool (decide (l = m))) ∧ Below w.heap.size w w' := by
  have hll : l.length ≤ 9223372036854775807 := hl.2.1
  have hmm : m.length ≤ 9223372036854775807 := hm.2.1
  have Hl := Lib.hid hl
  have Hm := Lib.hid hm
  clear hl hm
  obtain ⟨r, hr⟩ : ∃ r, decide (l = m) = r := ⟨_, rfl⟩
  rw [hr]
  have HR := Lib.hid hr
  clear hr
  by_cases hlen : l.length = m.length
  · have Hlen := Lib.hid hlen
    have hlb : ((l.length : Int) != (m.length : Int)) = false := by simp [hlen]
    have hlb2 : ((l.length : Int) == (m.length : Int)) = true := by simp [hlen]
    have hlm : l.length ≤ m.length := by omega
    have hml : m.length ≤ l.length := by omega
    clear hlen
    go_enter Try.func20, Try.ntmps20
    go_wp2
    go_loopw [5] (fun i wr => ∃ k : Nat, k ≤ l.length ∧ i = .int .i64 k ∧ Below w.heap.size w wr ∧ Hid (l.take k = m.take k)) (fun i _ => l.length - (intOf i).toNat)
    case atStart => exact ⟨0, Nat.zero_le _, rfl, Below.refl _ _, Lib.hid rfl⟩
    case round =>
      obtain ⟨k, hk, rfl, hB, He⟩ := hrel
      by_cases hlt : k < l.length
      · obtain ⟨x, ad, _, htk, hget, rfl, c0, c1, c2, c3, c4, c5, c6⟩ := news_at (Kd.C_below Hl.out hB) k hlt
        obtain ⟨y, ad2, _, htk2, hget2, rfl, d0, d1, d2, d3, d4, d5, d6⟩ := news_at (Kd.C_below Hm.out hB) k (by omega)
        have hkm : k < m.length := by omega
        have Htk := Lib.hid htk
        have Htk2 := Lib.hid htk2
        have Hg := Lib.hid hget
        have Hg2 := Lib.hid hget2
        clear htk htk2 hget hget2
        cases he : newsEq ⟨x.do_, x.src, x.id, x.ver, ⟨x.body.at_, x.body.key, x.body.val⟩⟩ ⟨y.do_, y.src, y.id, y.ver, ⟨y.body.at_, y.body.key, y.body.val⟩⟩
        · have hxy : Hid (x ≠ y) := Lib.hid (of_decide_eq_false (p := x = y) he)
          go_wp2
          go_quiet (fail)
          go_wp2
          go_ret
          refine ⟨?_, pw_below_drewN hB _⟩
          rw [← HR.out]
          have : ¬ l = m := by
            intro e
            have h1 := Hg.out
            rw [e, Hg2.out] at h1
            exact hxy.out (Option.some.inj h1).symm
          simp [this]
        · have hxy : Hid (x = y) := Lib.hid (of_decide_eq_true (p := x = y) he)
          go_wp2
          go_quiet (fail)
          go_wp2
          exact ⟨⟨k + 1, by omega, by go_num, pw_below_drewN hB _, Lib.hid (by rw [Htk.out, Htk2.out, He.out, hxy.out])⟩, by simp [intOf]; omega⟩
      · have hkl : k = l.length := by omega
        have hlm' : l = m := by
          have h := He.out
          rw [hkl, List.take_length, Hlen.out, List.take_length] at h
          exact h
        have Hlm := Lib.hid hlm'
        clear hkl hlm'
        go_wp2
        go_ret
        refine ⟨?_, hB⟩
        rw [← HR.out]
        simp [Hlm.out]
  · have hlb : ((l.length : Int) != (m.length : Int)) = true := by simp; omega
    have hlb2 : ((l.length : Int) == (m.length : Int)) = false := by simp; omega
    have Hlen := Lib.hid hlen
    clear hlen
    go_enter Try.func20, Try.ntmps20
    go_wp2
    go_ret
    refine ⟨?_, Below.refl _ _⟩
    rw [← HR.out]
    have : ¬ l = m := fun e => Hlen.out (by rw [e])
    simp [this]

set_option maxRecDepth 100000 in
set_option maxHeartbeats 1000000 in
theorem eq_ints (l m : List Int) (A B : Option Addr) (c1 c2 : Nat) (w : World) (hl : Kd.C (Kd.int .i64) w A l.length l) (hm : Kd.C (Kd.int .i64) w B m.length m) :
    Calls Try.prog 40 #[.slice A l.length c1, .slice B m.length c2] w fun e w' => e = .returned (.bool (decide (l = m))) ∧ Below w.heap.size w w' := by
  have hll : l.length ≤ 9223372036854775807 := hl.2.1
  have hmm : m.length ≤ 9223372036854775807 := hm.2.1
  have Hl := Lib.hid hl
  have Hm := Lib.hid hm
  clear hl hm
  obtain ⟨r, hr⟩ : ∃ r, decide (l = m) = r := ⟨_, rfl⟩
  rw [hr]
  have HR := Lib.hid hr
  clear hr
  by_cases hlen : l.length = m.length
  · have Hlen := Lib.hid hlen
    have hlb : ((l.length : Int) != (m.length : Int)) = false := by simp [hlen]
    have hlb2 : ((l.length : Int) == (m.length : Int)) = true := by simp [hlen]
    have hlm : l.length ≤ m.length := by omega
    have hml : m.length ≤ l.length := by omega
    clear hlen
    go_enter Try.func40, Try.ntmps40
    go_wp2
    go_loopw [13] (fun i wr => ∃ k : Nat, k ≤ l.length ∧ i = .int .i64 k ∧ Below w.heap.size w wr ∧ Hid (l.take k = m.take k)) (fun i _ => l.length - (intOf i).toNat)
    case atStart => exact ⟨0, Nat.zero_le _, rfl, Below.refl _ _, Lib.hid rfl⟩
    case round =>
      obtain ⟨k, hk, rfl, hB, He⟩ := hrel
      by_cases hlt : k < l.length
      · obtain ⟨x, ad, _, htk, hget, rfl, c0⟩ := int_at (Kd.C_below Hl.out hB) k hlt
        obtain ⟨y, ad2, _, htk2, hget2, rfl, d0⟩ := int_at (Kd.C_below Hm.out hB) k (by omega)
        have hkm : k < m.length := by omega
        have Htk := Lib.hid htk
        have Htk2 := Lib.hid htk2
        have Hg := Lib.hid hget
        have Hg2 := Lib.hid hget2
        clear htk htk2 hget hget2
        cases he : (x == y)
        · have he' : (x != y) = true := by simp [bne, he]
          have hxy : Hid (x ≠ y) := Lib.hid (by simpa using he)
          go_wp2
          go_quiet (fail)
          go_wp2
          go_ret
          refine ⟨?_, pw_below_drewN hB _⟩
          rw [← HR.out]
          have : ¬ l = m := by
            intro e
            have h1 := Hg.out
            rw [e, Hg2.out] at h1
            exact hxy.out (Option.some.inj h1).symm
          simp [this]
        · have he' : (x != y) = false := by simp [bne, he]
          have hxy : Hid (x = y) := Lib.hid (by simpa using he)
          go_wp2
          go_quiet (fail)
          go_wp2
          exact ⟨⟨k + 1, by omega, by go_num, pw_below_drewN hB _, Lib.hid (by rw [Htk.out, Htk2.out, He.out, hxy.out])⟩, by simp [intOf]; omega⟩
      · have hkl : k = l.length := by omega
        have hlm' : l = m := by
          have h := He.out
          rw [hkl, List.take_length, Hlen.out, List.take_length] at h
          exact h
        have Hlm := Lib.hid hlm'
        clear hkl hlm'
        go_wp2
        go_ret
        refine ⟨?_, hB⟩
        rw [← HR.out]
        simp [Hlm.out]
  · have hlb : ((l.length : Int) != (m.length : Int)) = true := by simp; omega
    have hlb2 : ((l.length : Int) == (m.length : Int)) = false := by simp; omega
    have Hlen := Lib.hid hlen
    clear hlen
    go_enter Try.func40, Try.ntmps40
    go_wp2
    go_ret
    refine ⟨?_, Below.refl _ _⟩
    rw [← HR.out]
    have : ¬ l = m := fun e => Hlen.out (by rw [e])
    simp [this]

set_option maxRecDepth 100000 in
set_option maxHeartbeats 1000000 in
theorem same_bools (l m : List Bool) (A B : Option Addr) (c1 c2 : Nat) (w : World) (hl : Kd.C Kd.bool w A l.length l) (hm : Kd.C Kd.bool w B m.length m) :
    Calls Try.prog 27 #[.slice A l.length c1, .slice B m.length c2] w fun e w' => e = .returned (.bool (decide (l = m))) ∧ Below w.heap.size w w' := by
  have hll : l.length ≤ 9223372036854775807 := hl.2.1
  have hmm : m.length ≤ 9223372036854775807 := hm.2.1
  have Hl := Lib.hid hl
  have Hm := Lib.hid hm
  clear hl hm
  obtain ⟨r, hr⟩ : ∃ r, decide (l = m) = r := ⟨_, rfl⟩
  rw [hr]
  have HR := Lib.hid hr
  clear hr
  by_cases hlen : l.length = m.length
  · have Hlen := Lib.hid hlen
    have hlb : ((l.length : Int) != (m.length : Int)) = false := by simp [hlen]
    have hlb2 : ((l.length : Int) == (m.length : Int)) = true := by simp [hlen]
    have hlm : l.length ≤ m.length := by omega
    have hml : m.length ≤ l.length := by omega
    clear hlen
    go_enter Try.func27, Try.ntmps27
    go_wp2
    go_loopw [13] (fun i wr => ∃ k : Nat, k ≤ l.length ∧ i = .int .i64 k ∧ Below w.heap.size w wr ∧ Hid (l.take k = m.take k)) (fun i _ => l.length - (intOf i).toNat)
    case atStart => exact ⟨0, Nat.zero_le _, rfl, Below.refl _ _, Lib.hid rfl⟩
    case round =>
      obtain ⟨k, hk, rfl, hB, He⟩ := hrel
      by_cases hlt : k < l.length
      · obtain ⟨x, ad, _, htk, hget, rfl, c0⟩ := bool_at (Kd.C_below Hl.out hB) k hlt
        obtain ⟨y, ad2, _, htk2, hget2, rfl, d0⟩ := bool_at (Kd.C_below Hm.out hB) k (by omega)
        have hkm : k < m.length := by omega
        have Htk := Lib.hid htk
        have Htk2 := Lib.hid htk2
        have Hg := Lib.hid hget
        have Hg2 := Lib.hid hget2
        clear htk htk2 hget hget2
        cases he : (x == y)
        · have he' : (x != y) = true := by simp [bne, he]
          have hxy : Hid (x ≠ y) := Lib.hid (by simpa using he)
          go_wp2
          go_quiet (fail)
          go_wp2
          go_ret
          refine ⟨?_, pw_below_drewN hB _⟩
          rw [← HR.out]
          have : ¬ l = m := by
            intro e
            have h1 := Hg.out
            rw [e, Hg2.out] at h1
            exact hxy.out (Option.some.inj h1).symm
          simp [this]
        · have he' : (x != y) = false := by simp [bne, he]
          have hxy : Hid (x = y) := Lib.hid (by simpa using he)
          go_wp2
          go_quiet (fail)
          go_wp2
          exact ⟨⟨k + 1, by omega, by go_num, pw_below_drewN hB _, Lib.hid (by rw [Htk.out, Htk2.out, He.out, hxy.out])⟩, by simp [intOf]; omega⟩
      · have hkl : k = l.length := by omega
        have hlm' : l = m := by
          have h := He.out
          rw [hkl, List.take_length, Hlen.out, List.take_length] at h
          exact h
        have Hlm := Lib.hid hlm'
        clear hkl hlm'
        go_wp2
        go_ret
        refine ⟨?_, hB⟩
        rw [← HR.out]
        simp [Hlm.out]
  · have hlb : ((l.length : Int) != (m.length : Int)) = true := by simp; omega
    have hlb2 : ((l.length : Int) == (m.length : Int)) = false := by simp; omega
    have Hlen := Lib.hid hlen
    clear hlen
    go_enter Try.func27, Try.ntmps27
    go_wp2
    go_ret
    refine ⟨?_, Below.refl _ _⟩
    rw [← HR.out]
    have : ¬ l = m := fun e => Hlen.out (by rw [e])
    simp [this]

end Go.Proofs.Ytfmojgdomficlaa
set_option linter.unusedVariables false
set_option linter.unusedSimpArgs false
/-! Whole. -/
namespace Go.Proofs.Ytfmojgdomficlaa
open Go.RowKit Go.Shelf Go.Proofs.YtfmojgdomficlaaW.PrintWords

set_option maxRecDepth 100000 in
set_option maxHeartbeats 4000000 in
theorem seg_Whole (d : SDisk) (Af Al : Option Addr) (cf cl : Nat) (w : World) (hd : DRows w Af cf Al cl d) (hF : Fits d) :
    Calls Try.prog 16 #[.agg #[.slice Af d.files.length cf, .slice Al d.list.length cl]] w fun e w' => e = .returned (.tuple #[.bool (diskB d && wholeB d), .int .i64 (if diskB d then 0 else 2)]) ∧ Below w.heap.size w w' := by
  have Hd := Lib.hid hd
  clear hd
  cases hb : diskB d
  · have Hb := Lib.hid hb
    clear hb
    go_enter Try.func16, Try.ntmps16
    go_wp2_with (first | (go_at_call 18; refine (seg_Check d _ _ cf cl _ (Hd.out.later (below_alloc (Below.refl _ _) _)) hF).mono ?_; rintro e w1 ⟨rfl, hb1⟩; rw [Hb.out]))
    go_ret2
    exact ⟨rfl, below_step (below_alloc (Below.refl _ _) _) (by simpa using hb1)⟩
  · have Hb := Lib.hid hb
    clear hb
    go_enter Try.func16, Try.ntmps16
    go_wp2_with (first
      | (go_at_call 18; refine (seg_Check d _ _ cf cl _ (Hd.out.later (below_alloc (Below.refl _ _) _)) hF).mono ?_; rintro e w1 ⟨rfl, hb1⟩; rw [Hb.out]; obtain ⟨hc1, hf1⟩ := bcell hb1)
      | (go_at_call 44; refine (seg_whole d _ _ _ cf cl _ (Hd.out.at_new (below_step (below_alloc (Below.refl _ _) _) (by simpa using hb1)) _)).mono ?_; rintro e w2 ⟨rfl, r2⟩))
    go_ret2
    have hw1 : Below w.heap.size w w1 := below_step (below_alloc (Below.refl _ _) _) (by simpa using hb1)
    exact ⟨rfl, below_step (below_alloc hw1 _) r2⟩
end Go.Proofs.Ytfmojgdomficlaa
set_option linter.unusedVariables false
set_option linter.unusedSimpArgs false
/-! Literal rows are the call's own. -/
namespace Go.Proofs.Ytfmojgdomficlaa
open Go.RowKit Go.Shelf Go.Proofs.YtfmojgdomficlaaW.PrintWords

theorem own_lit {α : Type} (d : Kd α) (W : World) (base e : Nat) (xs : List α) (inner : List Value) (hrep : Reps (d.M W base (fun _ => False)) d.sz xs inner) (hfl : Flat d) (hbase : base ≤ W.heap.size) (hm : xs.length ≤ 9223372036854775807) :
    Own d e (W.alloc (.cells inner.toArray e)) base (.slice (some ⟨W.heap.size, 0, none⟩) xs.length xs.length) xs := by
  refine ⟨fun k hk => trivial, inner, ?_, hrep.imp_ fun x cs hx => hfl _ _ _ _ _ x cs hx⟩
  have h2 := World.ownsRow_lit (base := base) (e := e) (size := d.sz) W inner.toArray xs.length hbase (by simpa [maxLen] using hm) (by simpa using hrep.1)
  simpa using h2
theorem kStep_mkM (w : World) (base : Nat) (ok : Nat → Prop) (x : SStep) : kStep.M w base ok x (stepCells x) := ⟨[_], _, rfl, rfl, [_], _, rfl, rfl, [_], _, rfl, rfl, [_], _, rfl, rfl, kNews_mkM w base ok x.news⟩
theorem flat_step : Flat kStep := fun _ _ _ _ _ x cs h => by obtain rfl := kStep_open (kStep.K_of_M h); exact kStep_mkM _ _ _ x
theorem reps_flat {α : Type} {R : α → List Value → Prop} {size : Nat} (f : α → List Value) (hf : ∀ x, (f x).length = size) (hR : ∀ x, R x (f x)) : ∀ (l : List α) (ps : List α) (cs : List Value), Reps R size ps cs → Reps R size (ps ++ l) (cs ++ l.flatMap f)
  | [], ps, cs, h => by simpa using h
  | x :: l, ps, cs, h => by
    have := reps_flat f hf hR l (ps ++ [x]) (cs ++ f x) (h.snoc (hR x) (hf x))
    simpa [List.append_assoc] using this
theorem reps_steps (W : World) (base : Nat) (ok : Nat → Prop) (l : List SStep) : Reps (kStep.M W base ok) kStep.sz l (l.flatMap stepCells) := by
  have := reps_flat (R := kStep.M W base ok) (size := kStep.sz) stepCells (fun _ => rfl) (kStep_mkM W base ok) l [] [] (Reps.none _ _)
  simpa using this
/-- A literal row of steps is the call's own. -/
theorem own_steps (W : World) (base : Nat) (l : List SStep) (cs : Array Value) (hcs : cs = (l.flatMap stepCells).toArray) (hbase : base ≤ W.heap.size) (hm : l.length ≤ 1000) : Own kStep 58 (W.alloc (.cells cs 58)) base (.slice (some ⟨W.heap.size, 0, none⟩) l.length l.length) l := by
  subst hcs
  exact own_lit kStep W base _ l _ (reps_steps W base _ l) flat_step hbase (by omega)
end Go.Proofs.Ytfmojgdomficlaa
set_option linter.unusedVariables false
set_option linter.unusedSimpArgs false
/-! The chapter's examples: what is needed on the way. -/
namespace Go.Proofs.Ytfmojgdomficlaa
open Go.RowKit Go.Shelf Go.Proofs.YtfmojgdomficlaaW.PrintWords

theorem own_steps' {w W : World} (HB : Below w.heap.size w W) (l : List SStep) (cs : Array Value) (hcs : cs = (l.flatMap stepCells).toArray) (hm : l.length ≤ 1000) : Own kStep 58 (W.alloc (.cells cs 58)) w.heap.size (.slice (some ⟨W.heap.size, 0, none⟩) l.length l.length) l := own_steps W _ l cs hcs HB.size hm
set_option maxRecDepth 100000 in
set_option maxHeartbeats 2000000 in
/-- A device that begins lies in memory of its own: it stays whatever is written to older rows. -/
theorem seg_BeginK (w : World) :
    Calls Try.prog 22 #[] w fun e w' => ∃ Af cf Al cl, e = .returned (.agg #[.slice Af beginD.files.length cf, .slice Al beginD.list.length cl]) ∧ (∀ w1 row, w'.grownBy w1 row → (∀ k, row = some k → k < w.heap.size) → DRows w1 Af cf Al cl beginD) ∧ Below w.heap.size w w' := by
  go_enter Try.func22, Try.ntmps22
  go_wp2
  obtain ⟨k1, k2, k3, hB⟩ := three_new w #[.slice (some ⟨w.heap.size + 1, 0, none⟩) 1 1, .slice (some ⟨w.heap.size + 1 + 1, 0, none⟩) 1 1] #[.int .i64 1, .slice none 0 0, .int .i64 0] #[.int .i64 1] 33 62 3
  have z0 := k1.cell 0 _ rfl
  have z1 := k1.cell 1 _ rfl
  refine bodyPost_ret (v := .agg #[.slice (some ⟨w.heap.size + 1, 0, none⟩) 1 1, .slice (some ⟨w.heap.size + 1 + 1, 0, none⟩) 1 1]) (by simp [results, Try.results22, go_sem, z0, z1]) rfl ?_
  refine ⟨_, _, _, _, rfl, fun w1 row hg hr => ?_, hB⟩
  have k2' := k2.kept hg (fun e => by have := hr _ e.symm; omega)
  have k3' := k3.kept hg (fun e => by have := hr _ e.symm; omega)
  exact ⟨lit_row kSFile _ _ ⟨1, [], 0⟩ [.int .i64 1, .slice none 0 0, .int .i64 0] 62 k2' (kSFile_mk ⟨1, [], 0⟩ none 0 (Nat.le_refl _) ⟨rfl, by simp, fun h => absurd h (by simp)⟩), lit_row (Kd.int .i64) _ _ 1 [.int .i64 1] 3 k3' rfl, Nat.le_refl _, Nat.le_refl _⟩
set_option maxRecDepth 100000 in
set_option maxHeartbeats 4000000 in
theorem law_fourK (w : World) : Calls Try.prog 39 #[] w fun e w' => ∃ v, e = .returned v ∧ Own kStep 58 w' w.heap.size v fourS ∧ Below w.heap.size w w' := by
  go_enter Try.func39, Try.ntmps39
  have HB := Below.refl w.heap.size w
  go_wp2_with (first
    | (go_at_call 38; refine (law_Say _ _ _ (by decide) (by decide)).mono ?_; rintro e w2 ⟨rfl, hb2⟩; have HB := below_step HB hb2; clear hb2)
    | (go_at_call 37; refine (law_write ⟨_, _, _, _, ⟨_, _, _⟩⟩ _).mono ?_; rintro e w2 ⟨rfl, hb2⟩; have HB := below_step HB hb2; clear hb2)
    | (go_at_call 30; refine (law_do _ _).mono ?_; rintro e w2 ⟨rfl, hb2⟩; have HB := below_step HB hb2; clear hb2)
    | (go_at_call 41; refine (law_Mark _ _).mono ?_; rintro e w2 ⟨rfl, hb2⟩; have HB := below_step HB hb2; clear hb2))
  go_ret
  exact ⟨_, rfl, own_steps' HB fourS _ (by rfl) (by decide), below_alloc HB _⟩
theorem steps_of_own {w : World} {base n c : Nat} {A : Option Addr} {l : List SStep} (h : Own kStep 58 w base (.slice A n c) l) : n = l.length ∧ l.length ≤ c ∧ StepsRow w A l.length l := by
  obtain ⟨A2, c2, he, h1, h2⟩ := own_reads' h
  cases he
  exact ⟨rfl, h1, h2⟩
theorem fits_of {d : SDisk} (h : diskB d = true) : Fits d := fun f hf => by have := ((disk_iff _).1 h).ready.recs f hf; omega
theorem fits_begin : Fits beginD := fits_of (by decide +kernel)
theorem fits_exA : Fits exA := fits_of known_a.2.2.1
theorem fits_exB : Fits exB := fits_of known_b.2.1
theorem fits_exC : Fits exC := fits_of known_c.2.2.1
/-- A new box. -/
def BoxV (h : Nat) (cs : Array Value) (ty : Nat) (v : Value) (X : World) : Prop := ∃ B, v = .pointer (some ⟨B, 0, none⟩) ∧ h ≤ B ∧ Cells X B cs ty
theorem BoxV.st (h : Nat) (cs : Array Value) (ty : Nat) : StableV (BoxV h cs ty) := fun _ _ _ ⟨B, h1, h2, h3⟩ hb => ⟨B, h1, h2, h3.later hb⟩
theorem BoxV.new {h : Nat} {X : World} (hh : h ≤ X.heap.size) (cs : Array Value) (ty : Nat) : BoxV h cs ty (.pointer (some ⟨X.heap.size, 0, none⟩)) (X.alloc (.cells cs ty)) := ⟨_, rfl, hh, Cells.new _ _ _⟩
/-- A literal row of steps. -/
def LitV (l : List SStep) (v : Value) (X : World) : Prop := ∃ B, v = .slice (some ⟨B, 0, none⟩) l.length l.length ∧ StepsRow X (some ⟨B, 0, none⟩) l.length l
theorem LitV.st (l : List SStep) : StableV (LitV l) := fun _ _ _ ⟨B, h1, h2⟩ hb => ⟨B, h1, Kd.C_below h2 hb⟩
theorem LitV.new {l : List SStep} (X : World) (hl : l.length ≤ 1000) (cs : Array Value) (hcs : cs = (l.flatMap stepCells).toArray) : LitV l (.slice (some ⟨X.heap.size, 0, none⟩) l.length l.length) (X.alloc (.cells cs 58)) := ⟨_, rfl, steps_row _ _ l hl cs _ hcs (Cells.new X _ _)⟩
/-- What Play answers. -/
def PlayV (d : SDisk) (done : List Bool) (en : Int) (v : Value) (X : World) : Prop :=
  ∃ Af cf Al cl Ab cb, v = .tuple #[.agg #[.slice Af d.files.length cf, .slice Al d.list.length cl], .slice Ab done.length cb, .int .i64 en] ∧ DRows X Af cf Al cl d ∧ Kd.C Kd.bool X Ab done.length done ∧ done.length ≤ cb
theorem PlayV.st (d : SDisk) (done : List Bool) (en : Int) : StableV (PlayV d done en) := fun _ _ _ ⟨Af, cf, Al, cl, Ab, cb, h1, h2, h3, h4⟩ hb => ⟨Af, cf, Al, cl, Ab, cb, h1, h2.later hb, Kd.C_below h3 hb, h4⟩
theorem PlayEnds.v {d : SDisk} {l : List SStep} {w w' : World} {e : Ending} (h : PlayEnds d l w e w') : ∃ v, e = .returned v ∧ Below w.heap.size w w' ∧ PlayV (playOf d l).1.1 (playOf d l).1.2 (playOf d l).2 v w' := by
  obtain ⟨Af, cf, Al, cl, Ab, cb, h1, h2, h3, h4, h5⟩ := h
  exact ⟨_, h1, h5, Af, cf, Al, cl, Ab, cb, rfl, h2, h3, h4⟩
def PlayAt (d : SDisk) (done : List Bool) (w : World) (e : Ending) (w' : World) : Prop := ∃ v, e = .returned v ∧ Below w.heap.size w w' ∧ PlayV d done 0 v w'
theorem play_at {d x : SDisk} {l : List SStep} {done : List Bool} {w w' : World} {e : Ending} (h : PlayEnds d l w e w') (h0 : (playOf d l).2 = 0) (h1 : (playOf d l).1.1 = x) (h2 : (playOf d l).1.2 = done) : PlayAt x done w e w' := by
  subst h1 h2
  have := h.v
  rwa [h0] at this
theorem play_a (Af Al A : Option Addr) (cf cl c : Nat) (w : World) (hd : DRows w Af cf Al cl beginD) (hl : StepsRow w A 4 (threeS ++ [crashS 0 true])) (hc : 4 ≤ c) :
    Calls Try.prog 25 #[.agg #[.slice Af beginD.files.length cf, .slice Al beginD.list.length cl], .slice A 4 c] w (PlayAt exA [true, true, true, true] w) :=
  (seg_Play beginD (threeS ++ [crashS 0 true]) Af Al A cf cl c w hd fits_begin hl hc (by decide)).mono fun _ _ h => play_at h known_a.1 rfl known_a.2.1
theorem play_b (Af Al A : Option Addr) (cf cl c : Nat) (w : World) (hd : DRows w Af cf Al cl exA) (hl : StepsRow w A 1 [doS 6]) (hc : 1 ≤ c) :
    Calls Try.prog 25 #[.agg #[.slice Af exA.files.length cf, .slice Al exA.list.length cl], .slice A 1 c] w (PlayAt exB (playOf exA [doS 6]).1.2 w) :=
  (seg_Play exA [doS 6] Af Al A cf cl c w hd fits_exA hl hc (by decide)).mono fun _ _ h => play_at h known_b.1 rfl rfl
theorem play_c (Af Al A : Option Addr) (cf cl c : Nat) (w : World) (hd : DRows w Af cf Al cl beginD) (hl : StepsRow w A 7 (fourS ++ [doS 4])) (hc : 7 ≤ c) :
    Calls Try.prog 25 #[.agg #[.slice Af beginD.files.length cf, .slice Al beginD.list.length cl], .slice A 7 c] w (PlayAt exC [true, true, true, true, true, true, true] w) :=
  (seg_Play beginD (fourS ++ [doS 4]) Af Al A cf cl c w hd fits_begin hl hc (by decide)).mono fun _ _ h => play_at h known_c.1 rfl known_c.2.1
/-! A box that is filled while rows stand beside it. -/
theorem row_off {α : Type} {R R' : α → List Value → Prop} {size : Nat} {w w1 : World} {A : Option Addr} {n : Nat} {ps : List α} {B : Nat} {z : Value} (h : ReadsRow R size w A n ps) (hg : w.grownBy w1 (some B)) (hv : ∀ (a : Addr) v, a.block = B → w.cell? a = some v → v = z) (hR : ∀ p c, R p c → ∃ x, c[0]? = some x ∧ x ≠ z) (hRR : ∀ p ∈ ps, ∀ c, R p c → R' p c) : ReadsRow R' size w1 A n ps := by
  refine ⟨h.1, h.2.1, fun hn => ?_⟩
  obtain ⟨ad, e, hc⟩ := h.2.2 hn
  have hb : ∀ i, (ad.add i).block = ad.block := fun i => by unfold Addr.add; split <;> rfl
  have hne : ad.block ≠ B := fun e1 => by
    have h0 : 0 < ps.length := by rw [h.1]; exact hn
    obtain ⟨c, _, h2, h3⟩ := hc 0 _ (List.getElem?_eq_getElem h0)
    obtain ⟨x, h4, h5⟩ := hR _ _ h2
    exact h5 (hv _ _ ((hb _).trans e1) (h3 0 x h4))
  refine ⟨ad, e, fun j p hj => ?_⟩
  obtain ⟨c, h1, h2, h3⟩ := hc j p hj
  exact ⟨c, h1, hRR p (List.mem_of_getElem? hj) c h2, fun i u hu => hg.cell (h3 i u hu) (by rw [hb]; exact fun e2 => hne (Option.some.inj e2))⟩
theorem DRows.off {w w1 : World} {Af Al : Option Addr} {cf cl B t : Nat} {d : SDisk} (h : DRows w Af cf Al cl d) (hB : Cells w B #[.slice none 0 0, .slice none 0 0] t) (hg : w.grownBy w1 (some B)) : DRows w1 Af cf Al cl d := by
  have hv : ∀ (a : Addr) v, a.block = B → w.cell? a = some v → v = .slice none 0 0 := fun a v e hc => by
    unfold World.cell? at hc
    rw [e, show w.heap[B]? = _ from hB] at hc
    simp only at hc
    split at hc
    · cases hc
    · match h : a.off with
      | 0 => rw [h] at hc; exact (Option.some.inj hc).symm
      | 1 => rw [h] at hc; exact (Option.some.inj hc).symm
      | k + 2 => rw [h] at hc; simp at hc
  refine ⟨row_off h.files hg hv (fun p c hc => ?_) (fun p hp c hc => ?_), row_off h.list hg hv (fun p c hc => ?_) (fun p hp c hc => hc), h.capf, h.capl⟩
  · obtain ⟨A, c', rfl, _, _⟩ := kSFile_open hc
    exact ⟨_, rfl, by simp⟩
  · obtain ⟨A, c', rfl, h1, h2⟩ := kSFile_open hc
    exact kSFile_mk p A c' h1 (row_off h2 hg hv (fun r c hc => by obtain rfl := kSRec_open hc; exact ⟨_, rfl, by simp⟩) (fun r _ c hc => by obtain rfl := kSRec_open hc; exact kSRec_mk _ _))
  · obtain rfl : c = [.int .i64 p] := hc
    exact ⟨_, rfl, by simp⟩
theorem grownBy_setAt (W : World) (b i : Nat) (v : Value) : W.grownBy (W.setCell ⟨b, i, none⟩ v) (some b) :=
  ⟨rfl, rfl, rfl, (KeepsWalks.setCell W _ v).size, fun k _ hk => Below.heap_setCell _ _ _ k (fun e => hk (by rw [e]))⟩
theorem box_put {w X : World} {B t : Nat} {u1 u2 : Value} (hb : Below w.heap.size w X) (hB : w.heap.size ≤ B) (hc : Cells X B #[u1, u2] t) (a b : Value) :
    Below w.heap.size w ((X.setCell ⟨B, 0, none⟩ a).setCell ⟨B, 1, none⟩ b) ∧ Cells ((X.setCell ⟨B, 0, none⟩ a).setCell ⟨B, 1, none⟩ b) B #[a, b] t ∧ X.grownBy ((X.setCell ⟨B, 0, none⟩ a).setCell ⟨B, 1, none⟩ b) (some B) :=
  ⟨(hb.setCell (p := ⟨B, 0, none⟩) hB a).setCell (p := ⟨B, 1, none⟩) hB b, by have := (hc.setAt 0 a).setAt 1 b; simpa using this, (grownBy_setAt _ B 0 a).trans (grownBy_setAt _ B 1 b)⟩
theorem whole_a (Af Al : Option Addr) (cf cl : Nat) (w : World) (hd : DRows w Af cf Al cl exA) :
    Calls Try.prog 16 #[.agg #[.slice Af exA.files.length cf, .slice Al exA.list.length cl]] w fun e w' => e = .returned (.tuple #[.bool false, .int .i64 0]) ∧ Below w.heap.size w w' :=
  (seg_Whole exA Af Al cf cl w hd fits_exA).mono fun e w' h => by rw [known_a.2.2.1, known_a.2.2.2] at h; exact h
theorem kn_news_at {d : SDisk} {l : List News} (hb : diskB d = true) (ht : thereOf d = l) (Af Al : Option Addr) (cf cl : Nat) (w : World) (hd : DRows w Af cf Al cl d) :
    Calls Try.prog 14 #[.agg #[.slice Af d.files.length cf, .slice Al d.list.length cl]] w fun e w' => ∃ A c, e = .returned (.tuple #[.slice A l.length c, .int .i64 0]) ∧ Kd.C kNews w' A l.length l ∧ l.length ≤ c ∧ Below w.heap.size w w' := by
  refine (seg_News d Af Al cf cl w hd (fits_of hb)).mono ?_
  rintro e w' ⟨v, rfl, h2, h3⟩
  rw [hb] at h2
  rw [if_pos rfl, ht] at h2
  obtain ⟨A, c, rfl, k1, k2⟩ := own_reads' h2
  exact ⟨A, c, by rw [hb]; rfl, k2, k1, h3⟩
/-! Literal rows. -/
theorem rows_lit {α : Type} (d : Kd α) (f : α → List Value) (hf : ∀ x, (f x).length = d.sz) (hK : ∀ w x, d.K w x (f x)) (w : World) (B : Nat) (l : List α) (hl : l.length ≤ 1000) (cs : Array Value) (t : TypeId) (hcs : cs = (l.flatMap f).toArray) (h : Cells w B cs t) : Kd.C d w (some ⟨B, 0, none⟩) l.length l :=
  ⟨rfl, by omega, fun _ => ⟨_, rfl, fun j p hj => ⟨f p, hf p, hK w p, fun i u hu => by
    have hi : i < d.sz := by rw [← hf p]; exact (List.getElem?_eq_some_iff.1 hu).1
    have h1 := flat_get f d.sz hf l j i p hj hi
    rw [hu] at h1
    have h2 := h.cell (j * d.sz + i) u (by rw [hcs]; simpa using h1)
    rw [add_plain]
    exact h2⟩⟩⟩
def newsCells (n : News) : List Value := [.int .i64 n.do_, .int .i64 n.src, .int .i64 n.id, .int .i64 n.ver, .int .i64 n.body.at_, .int .i64 n.body.key, .int .i64 n.body.val]
theorem lit_news (W : World) (l : List News) (hl : l.length ≤ 1000) (cs : Array Value) (hcs : cs = (l.flatMap newsCells).toArray) : Kd.C kNews (W.alloc (.cells cs 26)) (some ⟨W.heap.size, 0, none⟩) l.length l := rows_lit kNews newsCells (fun _ => rfl) (fun w x => kNews_mk w x) _ _ l hl cs _ hcs (Cells.new W _ _)
theorem lit_bools (W : World) (l : List Bool) (hl : l.length ≤ 1000) (cs : Array Value) (t : TypeId) (hcs : cs = (l.flatMap fun b => [Value.bool b]).toArray) : Kd.C Kd.bool (W.alloc (.cells cs t)) (some ⟨W.heap.size, 0, none⟩) l.length l := rows_lit Kd.bool (fun b => [Value.bool b]) (fun _ => rfl) (fun w x => rfl) _ _ l hl cs _ hcs (Cells.new W _ _)
theorem lit_ints (W : World) (l : List Int) (hl : l.length ≤ 1000) (cs : Array Value) (t : TypeId) (hcs : cs = (l.flatMap fun b => [Value.int .i64 b]).toArray) : Kd.C (Kd.int .i64) (W.alloc (.cells cs t)) (some ⟨W.heap.size, 0, none⟩) l.length l := rows_lit (Kd.int .i64) (fun b => [Value.int .i64 b]) (fun _ => rfl) (fun w x => rfl) _ _ l hl cs _ hcs (Cells.new W _ _)
theorem kn_same_bools (l : List Bool) (n : Nat) (hn : n = l.length) (A B : Option Addr) (c1 c2 : Nat) (w : World) (hl : Kd.C Kd.bool w A n l) (hm : Kd.C Kd.bool w B n l) :
    Calls Try.prog 27 #[.slice A n c1, .slice B n c2] w fun e w' => e = .returned (.bool true) ∧ Below w.heap.size w w' := by
  subst hn
  exact (same_bools l l A B c1 c2 w hl hm).mono fun e w' h => by rw [decide_eq_true rfl] at h; exact h
theorem kn_same_news (l : List News) (n : Nat) (hn : n = l.length) (A B : Option Addr) (c1 c2 : Nat) (w : World) (hl : Kd.C kNews w A n l) (hm : Kd.C kNews w B n l) :
    Calls Try.prog 20 #[.slice A n c1, .slice B n c2] w fun e w' => e = .returned (.bool true) ∧ Below w.heap.size w w' := by
  subst hn
  exact (same_news l l A B c1 c2 w hl hm).mono fun e w' h => by rw [decide_eq_true rfl] at h; exact h
theorem exC_files : exC.files.length = 2 := by have := congrArg List.length known_c.2.2.2.1; simpa using this
theorem exC_list : exC.list = [4, 3] := known_c.2.2.2.2.1
theorem exC_two : exC.list.length = 2 := by rw [exC_list]; rfl
/-- The second example's answer. -/
def PlayC (v : Value) (X : World) : Prop :=
  ∃ Af cf Al cl Ab cb, v = .tuple #[.agg #[.slice Af 2 cf, .slice Al 2 cl], .slice Ab 7 cb, .int .i64 0] ∧ DRows X Af cf Al cl exC ∧ Kd.C Kd.bool X Ab 7 [true, true, true, true, true, true, true] ∧ 7 ≤ cb
theorem play_c' (Af Al A : Option Addr) (cf cl c : Nat) (w : World) (hd : DRows w Af cf Al cl beginD) (hl : StepsRow w A 7 (fourS ++ [doS 4])) (hc : 7 ≤ c) :
    Calls Try.prog 25 #[.agg #[.slice Af beginD.files.length cf, .slice Al beginD.list.length cl], .slice A 7 c] w fun e w' => ∃ v, e = .returned v ∧ Below w.heap.size w w' ∧ PlayC v w' := by
  refine (play_c Af Al A cf cl c w hd hl hc).mono ?_
  rintro e w' ⟨v, h1, h2, Af, cf, Al, cl, Ab, cb, h3, h4, h5, h6⟩
  rw [exC_files, exC_two] at h3
  exact ⟨v, h1, h2, Af, cf, Al, cl, Ab, cb, h3, h4, h5, h6⟩
theorem news_c (Af Al : Option Addr) (cf cl : Nat) (w : World) (hd : DRows w Af cf Al cl exC) :
    Calls Try.prog 14 #[.agg #[.slice Af 2 cf, .slice Al 2 cl]] w fun e w' => ∃ A c, e = .returned (.tuple #[.slice A 3 c, .int .i64 0]) ∧ Kd.C kNews w' A 3 [sayN 2 1, sayN 1 2, markN 5] ∧ 3 ≤ c ∧ Below w.heap.size w w' := by
  have := kn_news_at known_c.2.2.1 known_c.2.2.2.2.2 Af Al cf cl w hd
  rw [exC_files, exC_two] at this
  exact this
/-- What is asked of the second example's device. -/
theorem cells_c {X : World} {Af Al : Option Addr} {cf cl : Nat} (h : DRows X Af cf Al cl exC) : ∃ af al, Af = some af ∧ Al = some al ∧ X.cell? (af.add 0) = some (.int .i64 3) ∧ X.cell? (af.add 3) = some (.int .i64 4) ∧ X.cell? (al.add 0) = some (.int .i64 4) ∧ X.cell? (al.add 1) = some (.int .i64 3) := by
  have h0 : 0 < exC.files.length := by rw [exC_files]; decide
  have h1 : 1 < exC.files.length := by rw [exC_files]; decide
  obtain ⟨f, af, _, _, -, -, g1, rfl, e1, -, -, -⟩ := sfile_at h.files 0 h0
  obtain ⟨f', af', _, _, -, -, g2, e, e2, -, -, -⟩ := sfile_at h.files 1 h1
  cases e
  have hm := known_c.2.2.2.1
  have n1 : f.no = 3 := by have := congrArg (·[0]?) hm; simp only [List.getElem?_map, g1] at this; simpa using this
  have n2 : f'.no = 4 := by have := congrArg (·[1]?) hm; simp only [List.getElem?_map, g2] at this; simpa using this
  rw [n1] at e1
  rw [n2] at e2
  obtain ⟨al, rfl, e3⟩ := int_cell h.list 0 4 (by rw [exC_list]; rfl) rfl
  obtain ⟨al', e, e4⟩ := int_cell h.list 1 3 (by rw [exC_list]; rfl) rfl
  cases e
  exact ⟨af, al, rfl, rfl, e1, e2, e3, e4⟩
end Go.Proofs.Ytfmojgdomficlaa
set_option linter.unusedVariables false
set_option linter.unusedSimpArgs false
/-! The chapter's examples. -/
namespace Go.Proofs.Ytfmojgdomficlaa
open Go.RowKit Go.Shelf Go.Proofs.YtfmojgdomficlaaW.PrintWords

theorem begin_behind {w W : World} {cs : Array Value} (HB : Below w.heap.size w W) (l : List SStep) (hcs : cs = (l.flatMap stepCells).toArray) (hm : l.length ≤ 1000) :
    Calls Try.prog 22 #[] (W.alloc (.cells cs 58)) fun e w' => ∃ Af cf Al cl, e = .returned (.agg #[.slice Af beginD.files.length cf, .slice Al beginD.list.length cl]) ∧ (∀ w1, w'.grownBy w1 (some W.heap.size) → DRows w1 Af cf Al cl beginD) ∧ Own kStep 58 w' w.heap.size (.slice (some ⟨W.heap.size, 0, none⟩) l.length l.length) l ∧ Below w.heap.size w w' := by
  refine (seg_BeginK _).mono ?_
  rintro e w' ⟨Af, cf, Al, cl, rfl, hk, hb⟩
  exact ⟨_, _, _, _, rfl, fun w1 hg => hk w1 _ hg (fun k e => by cases e; rw [World.size_alloc]; omega), Kd.R_below (own_steps' HB l cs hcs hm) hb, below_step (below_alloc HB _) hb⟩
theorem step_KM (W : World) (base : Nat) (x : SStep) (cs : List Value) {w : World} (h : kStep.K w x cs) : kStep.M W base (fun _ => False) x cs := by obtain rfl := kStep_open h; exact kStep_mkM _ _ _ x
theorem one_step (W : World) (s : SStep) (cs : Array Value) (hcs : cs = (stepCells s).toArray) : StepsRow (W.alloc (.cells cs 58)) (some ⟨W.heap.size, 0, none⟩) 1 [s] := steps_row _ _ [s] (by simp) cs _ (by rw [hcs]; simp) (Cells.new W _ _)
set_option maxRecDepth 100000 in
set_option maxHeartbeats 16000000 in
theorem law_known (w : World) : Calls Try.prog 13 #[] w fun e w' => e = .returned (.bool true) ∧ Below w.heap.size w w' := by
  go_enter Try.func13, Try.ntmps13
  have HB := Below.refl w.heap.size w
  go_upto_region 4 with (first
    | (go_at_call 11; (first
      | ((with_reducible refine (seg_Sum ⟨1, 0, 0, 0, ⟨0, 0, 0⟩⟩ _).mono ?_); rintro e w2 ⟨rfl, hb2⟩; rw [known_sum1]; have HB := below_step HB hb2; clear hb2)
      | ((with_reducible refine (seg_Sum ⟨2, 0, 0, 0, ⟨0, 0, 0⟩⟩ _).mono ?_); rintro e w2 ⟨rfl, hb2⟩; rw [known_sum2]; have HB := below_step HB hb2; clear hb2)))
    | (go_at_call 38; (with_reducible refine (law_Say _ _ _ (by decide) (by decide)).mono ?_); rintro e w2 ⟨rfl, hb2⟩; have HB := below_step HB hb2; clear hb2)
    | (go_at_call 37; (with_reducible refine (law_write ⟨_, _, _, _, ⟨_, _, _⟩⟩ _).mono ?_); rintro e w2 ⟨rfl, hb2⟩; have HB := below_step HB hb2; clear hb2)
    | (go_at_call 30; (with_reducible refine (law_do _ _).mono ?_); rintro e w2 ⟨rfl, hb2⟩; have HB := below_step HB hb2; clear hb2))
  go_upto_region 5 with (first
    | (go_at_call 22; (with_reducible refine (begin_behind HB threeS ?_ ?_).mono ?_); exact rfl; decide; rintro e w4 ⟨Af, cf, Al, cl, rfl, G, HO, HB⟩)
    | (go_at_call 33; (with_reducible refine (law_crash _ _ _).mono ?_); rintro e w5 ⟨rfl, hb2⟩; have HB := below_step HB hb2; have HO := Kd.R_below HO hb2; have G := fun (w1 : World) (hg : w5.grownBy w1 _) => G w1 ((below_grown hb2 _).trans hg))
    | (at_builtin; refine Kd.R_append_rows kStep (w0 := w) w.heap.size rfl _ _ 45 58 (.agg #[.int .i64 0, .int .i64 0, .int .i64 0, .bool false, .int .i64 0, .int .i64 0, .int .i64 0, .int .i64 0, .int .i64 0, .int .i64 0, .int .i64 0]) 88 rfl (by kernel_rfl) (by kernel_rfl) rfl (by decide) (by omega) _ threeS [crashS 0 true] _ 1 1 (fun _ => True) (fun _ => False) rfl rfl (Kd.R_below HO (below_alloc (Below.refl _ _) _)) (one_step _ (crashS 0 true) _ (by rfl)) (fun x cs h => step_KM _ _ x cs h) (fun _ h => h.elim) (fun _ _ => trivial) (below_alloc HB _) (by have := HB.size; rw [World.size_alloc]; omega) (by decide) ?_; intro v1 w6 r1 r2 r3 r4; obtain ⟨A1, n1, c1, rfl⟩ := R_slice' r1; obtain ⟨e1, hc1, hl1⟩ := steps_of_own r1; obtain rfl : n1 = 4 := e1; have hd6 := G w6 ((World.grownBy_alloc _ _ _).trans r3))
    | (go_at_call 25; (with_reducible refine (play_a _ _ _ _ _ _ _ hd6 hl1 hc1).mono ?_); rintro e w7 ⟨_, rfl, hb2, Af2, cf2, Al2, cl2, Ab2, cb2, rfl, hd7, hb7, hc7⟩; have HB := below_step r2 hb2; clear hd6 hl1 hc1 G HO))
  have HD7 := Lib.hid hd7
  have HO7 := Lib.hid hb7
  clear hd7 hb7 r1 r2 r3 r4
  go_upto_region 6 with (first
    | (go_at_call 16; (with_reducible refine (whole_a _ _ _ _ _ (HD7.out.later (below_alloc (Below.refl _ _) _))).mono ?_); rintro e w8 ⟨rfl, hb8⟩; have HC8 := Lib.hid ((Cells.new w7 #[.slice Af2 exA.files.length cf2, .slice Al2 exA.list.length cl2] 33).later hb8); have hb78 := below_step (below_alloc (Below.refl _ _) _) hb8; have HD8 := Lib.hid (HD7.out.later hb78); have HO8 := Lib.hid (Kd.C_below HO7.out hb78); have HB8 := Lib.hid (below_step HB hb78); clear HB hb8 hb78 HO7 HD7))
  refine wp_region_flow [.calm 0, .calm 1, .float 8 [.one 2, .one 3, .free 4, .free 5, .free 6, .free 7], .fence 9, .free 10, .free 11] (Below w8.heap.size w8) (Below w8.heap.size w8) (stable_below _ _ (Nat.le_refl _)) (fun _ h => h) (by kernel_rfl) (by kernel_rfl) (below_drew1 (Below.refl _ _)) ?_
  simp only [pickEnts, pickF, List.getElem?_cons_succ, List.getElem?_cons_zero, List.filterMap_cons, List.filterMap_nil, Option.map_some]
  repeat ((first | refine flow_calm (fun K hK => ?_) | refine flow_free (fun K hK => ?_) | refine float_calm (fun K hK => ?_) | refine float_free (fun K hK => ?_)); go_simp; first | (refine hK _ ?_; clear hK K) | (apply Exists.intro; (refine ⟨fun X => ?_, hK _ ?_⟩); (first | (intro hC; rfl) | rfl | (intro hC; have q := HC8.out.later hC.out; have q0 := q.cell 0 _ rfl; have q1 := q.cell 1 _ rfl; go_simp; done) | (intro hC; have q := HC8.out.later hC.out; have q0 := q.cell 0 _ rfl; have q1 := q.cell 1 _ rfl; go_simp; rfl) | (intro hC; (with_reducible refine (law_do 6 _).mono ?_); rintro e w' ⟨rfl, hb⟩; exact ⟨rfl, hb⟩)); clear hK K))
  refine flow_float (BoxV w8.heap.size #[.slice none 0 0, .slice none 0 0] 33) (BoxV.st _ _ _) ⟨rfl, fun X hX => ?_⟩ ?_
  · go_simp
    exact ⟨below_alloc (Below.refl _ _) _, BoxV.new hX.out.size _ _⟩
  refine float_one (LitV [doS 6]) (LitV.st _) ⟨rfl, fun X hX => ?_⟩ (fun v X0 hX0 hV0 => ?_)
  · go_simp
    exact ⟨below_alloc (Below.refl _ _) _, LitV.new (l := [doS 6]) X (by decide) _ rfl⟩
  obtain ⟨B1, rfl, -⟩ := hV0
  clear hX0
  refine float_one (PlayV exB (playOf exA [doS 6]).1.2 0) (PlayV.st _ _ _) ⟨rfl, fun X hX => ?_⟩ (fun v X0 hX0 hV0 => ?_)
  · obtain ⟨hx1, ⟨B, e1, hx2⟩⟩ := hX.out
    cases e1
    go_simp
    exact ⟨Below.refl _ _, (play_b _ _ _ _ _ _ _ (HD8.out.later hx1) hx2 (Nat.le_refl _)).mono fun e w' h => h⟩
  obtain ⟨Af3, cf3, Al3, cl3, Ab3, cb3, rfl, -⟩ := hV0
  clear hX0
  repeat ((first | refine flow_calm (fun K hK => ?_) | refine flow_free (fun K hK => ?_) | refine float_calm (fun K hK => ?_) | refine float_free (fun K hK => ?_)); go_simp; first | (refine hK _ ?_; clear hK K) | (apply Exists.intro; (refine ⟨fun X => ?_, hK _ ?_⟩); (first | (intro hC; rfl) | rfl | (intro hC; skip; go_simp; done) | (intro hC; skip; go_simp; rfl)); clear hK K))
  refine float_land (fun v X0 hX0 hV0 => ?_)
  obtain ⟨B2, rfl, -, -⟩ := hV0
  clear hX0
  refine flow_fence rfl (fun X hX K hK => ?_)
  obtain ⟨⟨⟨hx1, -⟩, ⟨Af, cf, Al, cl, Ab, cb, e2, hx4, -, -⟩⟩, ⟨B, e1, hx2, hx3⟩⟩ := hX.out
  cases e1
  cases e2
  have x0 := hx3.cell 0 _ rfl
  have x1 := hx3.cell 1 _ rfl
  have x2 := hx3.frozen 0
  have x3 := hx3.frozen 1
  go_simp
  obtain ⟨y1, y2, y3⟩ := box_put hx1 hx2 hx3 (.slice Af3 exB.files.length cf3) (.slice Al3 exB.list.length cl3)
  refine hK.out _ _ (fun Z => Below w8.heap.size w8 Z ∧ Cells Z B2 #[.slice Af3 exB.files.length cf3, .slice Al3 exB.list.length cl3] 33 ∧ DRows Z Af3 cf3 Al3 cl3 exB) (fun Z => Below w8.heap.size w8 Z ∧ Cells Z B2 #[.slice Af3 exB.files.length cf3, .slice Al3 exB.list.length cl3] 33 ∧ DRows Z Af3 cf3 Al3 cl3 exB) (fun Z Z' hZ hb => ⟨below_step hZ.1 hb, hZ.2.1.later hb, hZ.2.2.later hb⟩) (fun _ h => h) ⟨y1, y2, hx4.off hx3 y3⟩ ?_
  clear hK K hX x0 x1 x2 x3 y1 y2 y3 hx1 hx2 hx3 hx4 X
  repeat ((first | refine flow_calm (fun K hK => ?_) | refine flow_free (fun K hK => ?_) | refine float_calm (fun K hK => ?_) | refine float_free (fun K hK => ?_)); go_simp; first | (refine hK _ ?_; clear hK K) | (apply Exists.intro; (refine ⟨fun X => ?_, hK _ ?_⟩); (first | (intro hC; rfl) | rfl | (intro hC; skip; go_simp; done) | (intro hC; skip; go_simp; rfl)); clear hK K))
  refine flow_nil ?_
  intro w9 hX
  obtain ⟨hb9, hc9, hd9⟩ := hX.out
  have HB9 := Lib.hid (below_step HB8.out hb9)
  have HO9 := Lib.hid (Kd.C_below HO8.out hb9)
  have k0 := hc9.cell 0 _ rfl
  have k1 := hc9.cell 1 _ rfl
  have HD9 := Lib.hid hd9
  clear hX hb9 hc9 hd9 HB8 HO8 HC8 HD8
  go_upto_region 8 with (go_at_call 14; (with_reducible refine (kn_news_at known_b.2.1 known_b.2.2 _ _ _ _ _ HD9.out).mono ?_); rintro e w10 ⟨An, cn, rfl, hn10, hcn, hb10⟩; have HB10 := Lib.hid (below_step HB9.out hb10); have HO10 := Lib.hid (Kd.C_below HO9.out hb10); have HN10 := Lib.hid hn10; clear hn10 hb10 HB9 HO9 HD9 k0 k1)
  go_upto_region 10 with (first
    | (go_at_call 27; (with_reducible refine (kn_same_bools [true, true, true, true] 4 rfl _ _ _ _ _ (Kd.C_below HO10.out (below_alloc (Below.refl _ _) _)) ?_).mono ?_); exact lit_bools w10 [true, true, true, true] (by decide) _ _ rfl; rintro e w11 ⟨rfl, hb11⟩; have hb11' := below_step (below_alloc (Below.refl w10.heap.size w10) _) hb11; have HB11 := Lib.hid (below_step HB10.out hb11'); have HN11 := Lib.hid (Kd.C_below HN10.out hb11'); clear hb11 hb11' HB10 HN10 HO10)
    | (go_at_call 38; (with_reducible refine (law_Say _ _ _ (by decide) (by decide)).mono ?_); rintro e w12 ⟨rfl, hb12⟩; have HB12 := Lib.hid (below_step HB11.out hb12); have HN12 := Lib.hid (Kd.C_below HN11.out hb12); clear hb12 HB11 HN11)
    | (go_at_call 20; (with_reducible refine (kn_same_news [sayN 1 1] 1 rfl _ _ _ _ _ (Kd.C_below HN12.out (below_alloc (Below.refl _ _) _)) ?_).mono ?_); exact lit_news w12 [sayN 1 1] (by decide) _ rfl; rintro e w13 ⟨rfl, hb13⟩; have HB13 := Lib.hid (below_step (below_alloc HB12.out _) hb13); clear hb13 HB12 HN12))
  go_upto_region 11 with (first
    | (go_at_call 22; (with_reducible refine (seg_BeginK _).mono ?_); rintro e w14 ⟨Af4, cf4, Al4, cl4, rfl, hk14, hb14⟩; have HB14 := Lib.hid (below_step HB13.out hb14); clear hb14 HB13)
    | (go_at_call 39; (with_reducible refine (law_fourK _).mono ?_); rintro e w15 ⟨v15, rfl, HO, HB⟩)
    | (go_at_call 30; (with_reducible refine (law_do _ _).mono ?_); rintro e w16 ⟨rfl, hb2⟩; have HB := below_step HB hb2; have HO := Kd.R_below HO hb2; clear hb2)
    | (at_builtin; refine Kd.R_append_rows kStep (w0 := w14) w14.heap.size rfl _ _ 45 58 (.agg #[.int .i64 0, .int .i64 0, .int .i64 0, .bool false, .int .i64 0, .int .i64 0, .int .i64 0, .int .i64 0, .int .i64 0, .int .i64 0, .int .i64 0]) 88 rfl (by kernel_rfl) (by kernel_rfl) rfl (by decide) (by omega) _ fourS [doS 4] _ 1 1 (fun _ => True) (fun _ => False) rfl rfl (Kd.R_below HO (below_alloc (Below.refl _ _) _)) (one_step _ (doS 4) _ (by rfl)) (fun x cs h => step_KM _ _ x cs h) (fun _ h => h.elim) (fun _ _ => trivial) (below_alloc HB _) (by have := HB.size; rw [World.size_alloc]; omega) (by decide) ?_; intro v1 w17 r1 r2 r3 r4; obtain ⟨A1, n1, c1, rfl⟩ := R_slice' r1; obtain ⟨e1, hc1, hl1⟩ := steps_of_own r1; obtain rfl : n1 = 7 := e1; have hd17 := hk14 w17 none (below_grown r2 _) (fun _ e => by cases e))
    | (go_at_call 25; (with_reducible refine (play_c' _ _ _ _ _ _ _ hd17 hl1 hc1).mono ?_); rintro e w18 ⟨_, rfl, hb2, Af5, cf5, Al5, cl5, Ab5, cb5, rfl, hd18, hb18, hc18⟩; have HB18 := Lib.hid (below_step (below_step HB14.out r2) hb2); clear hd17 hl1 hc1 hk14 HO HB HB14 hb2))
  have HD18 := Lib.hid hd18
  have HO18 := Lib.hid hb18
  clear hd18 hb18 r1 r2 r3 r4
  go_upto_region 12 with (go_at_call 14; (with_reducible refine (news_c _ _ _ _ _ (HD18.out.later (below_alloc (Below.refl _ _) _))).mono ?_); rintro e w19 ⟨An5, cn5, rfl, hn19, hcn5, hb19⟩; have HC19 := Lib.hid ((Cells.new w18 #[.slice Af5 2 cf5, .slice Al5 2 cl5] 33).later hb19); have hb819 := below_step (below_alloc (Below.refl _ _) _) hb19; have HD19 := Lib.hid (HD18.out.later hb819); have HO19 := Lib.hid (Kd.C_below HO18.out hb819); have HB19 := Lib.hid (below_step HB18.out hb819); have HN19 := Lib.hid hn19; clear hn19 hb19 hb819 HB18 HO18 HD18)
  obtain ⟨af, al, rfl, rfl, y1, y2, y3, y4⟩ := cells_c HD19.out
  obtain ⟨xb, ab, -, -, hx, rfl, y5⟩ := bool_at HO19.out 6 (by decide)
  obtain rfl : true = xb := Option.some.inj hx
  have y6 := HC19.out.cell 0 _ rfl
  have y7 := HC19.out.cell 1 _ rfl
  replace y1 : w19.cell? af = _ := y1
  replace y2 : w19.cell? ⟨af.block, af.off + 3, none⟩ = _ := y2
  replace y3 : w19.cell? al = _ := y3
  replace y4 : w19.cell? ⟨al.block, al.off + 1, none⟩ = _ := y4
  replace y5 : w19.cell? ⟨ab.block, ab.off + 6, none⟩ = _ := y5
  have HB := HB19.out
  have hn := HN19.out
  go_wp2_with (first
    | (go_at_call 38; (with_reducible refine (law_Say _ _ _ (by decide) (by decide)).mono ?_); rintro e w20 ⟨rfl, hb2⟩; have HB := below_step HB hb2; have hn := Kd.C_below hn hb2; clear hb2)
    | (go_at_call 41; (with_reducible refine (law_Mark _ _).mono ?_); rintro e w20 ⟨rfl, hb2⟩; have HB := below_step HB hb2; have hn := Kd.C_below hn hb2; clear hb2)
    | (go_at_call 20; (with_reducible refine (kn_same_news [sayN 2 1, sayN 1 2, markN 5] 3 rfl _ _ _ _ _ (Kd.C_below hn (below_alloc (Below.refl _ _) _)) ?_).mono ?_); exact lit_news w20 [sayN 2 1, sayN 1 2, markN 5] (by decide) _ rfl; rintro e w21 ⟨rfl, hb21⟩; have HB21 := below_step (below_alloc HB _) hb21))
  go_ret
  exact ⟨rfl, HB21⟩
end Go.Proofs.Ytfmojgdomficlaa
