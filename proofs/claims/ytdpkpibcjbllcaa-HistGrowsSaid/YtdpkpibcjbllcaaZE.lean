/-
  Texts of one hand, laid together: ExpE, ExpF, Ex.
-/
import Derived.Test.YtdpkpibcjbllcaaZD
import Derived.ChangeKeysEq
set_option linter.unusedVariables false
set_option linter.unusedSimpArgs false
/-! The package's functions, fifth part: Keeps, least, Least. -/
namespace Go.Proofs.Ytdpkpibcjbllcaa
open Go.RowKit Go.Proofs.YtdpkpibcjbllcaaW.PrintWords

set_option maxRecDepth 100000 in
set_option maxHeartbeats 1000000 in
theorem hist_Keeps (l : List News) (A : Option Addr) (c : Nat) (srcs : Int) (w : World) (hr : NewsRow w A l.length l) (hc : l.length ≤ c) :
    Calls Try.prog 26 #[.slice A l.length c, .int .i64 srcs] w fun e w' => e = .returned (.tuple #[.bool (formedB l srcs && decide ((lateOf l).length = 0)), .int .i64 (if formedB l srcs then 0 else 2)]) ∧ Below w.heap.size w w' := by
  have h := hist_Late l A c srcs w hr hc
  obtain ⟨f, hf⟩ : ∃ f, formedB l srcs = f := ⟨_, rfl⟩
  rw [hf] at h ⊢
  obtain ⟨lt, hlt⟩ : ∃ lt, lateOf l = lt := ⟨_, rfl⟩
  rw [hlt] at h ⊢
  have H := Lib.hid h
  clear h hf hlt hr
  cases f
  · go_enter Try.func26, Try.ntmps26
    go_wp2_with (first | (go_at_call 24; (with_reducible refine H.out.mono ?_); rintro e w1 ⟨v, rfl, hO, hb1⟩))
    go_ret2
    exact ⟨(by first | rfl | (simp; done) | (simp [*]; done)), hb1⟩
  · by_cases h0 : lt.length = 0
    · have h0' : ((lt.length : Int) == 0) = true := by simp [h0]
      go_enter Try.func26, Try.ntmps26
      go_wp2_with (first | (go_at_call 24; (with_reducible refine H.out.mono ?_); rintro e w1 ⟨v, rfl, hO, hb1⟩; obtain ⟨A1, c1, rfl, _, _⟩ := own_reads' hO))
      go_ret2
      exact ⟨(by first | rfl | (simp; done) | (simp [*]; done)), hb1⟩
    · have h0' : ((lt.length : Int) == 0) = false := by simpa using h0
      go_enter Try.func26, Try.ntmps26
      go_wp2_with (first | (go_at_call 24; (with_reducible refine H.out.mono ?_); rintro e w1 ⟨v, rfl, hO, hb1⟩; obtain ⟨A1, c1, rfl, _, _⟩ := own_reads' hO))
      go_ret2
      exact ⟨(by first | rfl | (simp; done) | (simp [*]; done)), hb1⟩

/-- The marks as news. -/
def markN (s : Nat) (at_ : Int) : List News := if 0 < at_ then [⟨3, s, 0, 0, ⟨at_, 0, 0⟩⟩] else []
def marksTo (M : List Int) (k : Nat) : List News := (List.range k).flatMap fun s => markN s (M.getD s 0)
theorem marksTo_succ (M : List Int) (k : Nat) : marksTo M (k + 1) = marksTo M k ++ markN k (M.getD k 0) := by
  simp [marksTo, List.range_succ]
def newsJ (L : List (Key × News)) (js : List Nat) : List News := js.flatMap fun i => match L[i]? with
  | some p => [p.2]
  | none => []
theorem newsJ_snoc {L : List (Key × News)} {js : List Nat} {i : Nat} {k : Key} {x : News} (h : L[i]? = some (k, x)) : newsJ L (js ++ [i]) = newsJ L js ++ [x] := by
  simp [newsJ, h]
theorem newsJ_len (L : List (Key × News)) : ∀ js : List Nat, (newsJ L js).length ≤ js.length
  | [] => by simp [newsJ]
  | i :: js => by
    have ih := newsJ_len L js
    have h1 : newsJ L (i :: js) = (match L[i]? with | some p => [p.2] | none => []) ++ newsJ L js := by simp [newsJ]
    rw [h1, List.length_append, List.length_cons]
    have : (match L[i]? with | some p => [p.2] | none => ([] : List News)).length ≤ 1 := by
      split <;> simp
    omega
theorem newsJ_all (L : List (Key × News)) {js : List Nat} (h : js.Perm (List.range L.length)) : (newsJ L js).Perm (L.map (·.2)) := by
  refine (List.Perm.flatMap_right _ h).trans ?_
  have key : ∀ (l : List (Key × News)), (List.range l.length).flatMap (fun i => match l[i]? with | some p => [p.2] | none => []) = l.map (·.2) := by
    intro l
    induction l with
    | nil => rfl
    | cons a l ih =>
      rw [List.length_cons, List.range_succ_eq_map, List.flatMap_cons, List.flatMap_map, List.map_cons]
      exact congrArg (List.cons a.2) ih
  rw [key L]
theorem marksTo_len (M : List Int) (k : Nat) : (marksTo M k).length ≤ k := by
  induction k with
  | zero => simp [marksTo]
  | succ k ih =>
    rw [marksTo_succ, List.length_append]
    have : (markN k (M.getD k 0)).length ≤ 1 := by unfold markN; split <;> simp
    omega
/-- What a least list has, in some order. -/
def leastL (s : List (Key × News) × List Int) : List News := s.1.map (·.2) ++ marksTo s.2 4
def SortN (xs ys : List News) : Prop := ys.Perm xs ∧ ys.Pairwise (fun a b => ltOf cmpN b a = false)
def LeastPost (w : World) (xs : List News) (e : Ending) (w' : World) : Prop := ∃ v ys, e = .returned v ∧ Own kNews 38 w' w.heap.size v ys ∧ SortN xs ys ∧ Below w.heap.size w w'

set_option maxRecDepth 100000 in
set_option maxHeartbeats 4000000 in
theorem hist_least (g b : Nat) (L : List (Key × News)) (M : List Int) (w : World) (hs : HeardAt w g b L M) (hLlen : L.length ≤ 1000) :
    Calls Try.prog 53 #[.pointer (some ⟨g, 0, none⟩)] w (LeastPost w (leastL (L, M))) := by
  obtain ⟨oe, hoe⟩ : ∃ oe, leastL (L, M) = oe := ⟨_, rfl⟩
  rw [hoe]
  have Hoe : Hid (L.map (·.2) ++ marksTo M 4 = oe) := Lib.hid hoe
  clear hoe
  have hg0 := hs.cell
  have hgl := World.block_lt_of_cell? _ _ hs.cell
  have Hs := Lib.hid hs
  clear hs
  go_enter Try.func53, Try.ntmps53
  go_wp2_with (first | (at_range; refine wpList_range_at (enc := encKey) (L := mapV newsVal L) rfl _ rfl Try.underlying62 rfl Hs.out.map ?_; intro w3 hw3 hrg; have Hw3 := Lib.hid hw3; clear hw3))
  try go_frame
  have hb23 : Below w.heap.size w w3 := by rw [Hw3.out]; exact below_alloc (Below.refl _ _) _
  have hs3 := Hs.out.later hb23
  have hg3 := cell_later' hb23 hg0
  have hwr : w.heap.size ≤ w3.heap.size := hb23.size
  clear Hw3 hg0 Hs
  generalize hr : w.heap.size = r at *
  go_loopw [3] (fun v wr => ∃ js, RangeAt wr b r encKey (mapV newsVal L) js ∧ HeardAt wr g b L M ∧ Own kNews 38 wr r v (newsJ L js) ∧ Below r w wr) (fun _ wr => 1001 - metOf wr r)
  case atStart => exact ⟨[], hrg, hs3, Kd.R_nil _ _ _ _ _, hb23⟩
  case round =>
    obtain ⟨js, hrg, hs, hO, hBr⟩ := hrel
    have hne1 : ∀ cells q, (Obj.mapIter (some b) (mapV newsVal L).length js.toArray (mapV newsVal L).length) ≠ .cells cells q (0, 0) := fun _ _ h => by cases h
    have hrit := hrg.2.1
    have hbr : b ≠ r := hrg.ne
    have hgr : g ≠ r := fun e => by
      have h1 := hs.cells
      rw [e, hrit] at h1
      cases h1
    have hll : (mapV newsVal L).length = L.length := by simp [mapV]
    have hrl : r ≤ wr.heap.size := hr ▸ hBr.size
    go_wp2_with (first | (at_next; refine wpList_next_at (enc := encKey) (L := mapV newsVal L) rfl _ rfl rfl hrg ?_ ?_))
    · intro hall
      have hp := met_all hrg.2.2.1 hrg.2.2.2 (fun i hi => hall i (by rw [← hll]; exact hi))
      rw [hll] at hp
      have Hp := Lib.hid (newsJ_all L hp)
      have hjl := newsJ_len L js
      have hjr := hrg.len
      rw [hll] at hjr
      have HO := Lib.hid hO
      have m0 := hs.mark 0 (by omega)
      have m1 := hs.mark 1 (by omega)
      have m2 := hs.mark 2 (by omega)
      have m3 := hs.mark 3 (by omega)
      simp only [Nat.reduceAdd] at m0 m1 m2 m3
      generalize newsJ L js = xs at *
      clear hp hO hall hrg hs hrit hs3 hg3 hne1 hll
      obtain ⟨x0, hx0⟩ : ∃ x, M.getD 0 0 = x := ⟨_, rfl⟩
      obtain ⟨x1, hx1⟩ : ∃ x, M.getD 1 0 = x := ⟨_, rfl⟩
      obtain ⟨x2, hx2⟩ : ∃ x, M.getD 2 0 = x := ⟨_, rfl⟩
      obtain ⟨x3, hx3⟩ : ∃ x, M.getD 3 0 = x := ⟨_, rfl⟩
      rw [hx0] at m0
      rw [hx1] at m1
      rw [hx2] at m2
      rw [hx3] at m3
      have Hx0 := Lib.hid hx0
      have Hx1 := Lib.hid hx1
      have Hx2 := Lib.hid hx2
      have Hx3 := Lib.hid hx3
      clear hx0 hx1 hx2 hx3
      have hix0 : ∀ w : World, (Instr.index 63 (.agg #[.int .i64 x0, .int .i64 x1, .int .i64 x2, .int .i64 x3]) (.int .i64 0)).run Try.prog w = .ok (.int .i64 x0) w := fun w => by kernel_rfl
      have hix1 : ∀ w : World, (Instr.index 63 (.agg #[.int .i64 x0, .int .i64 x1, .int .i64 x2, .int .i64 x3]) (.int .i64 1)).run Try.prog w = .ok (.int .i64 x1) w := fun w => by kernel_rfl
      have hix2 : ∀ w : World, (Instr.index 63 (.agg #[.int .i64 x0, .int .i64 x1, .int .i64 x2, .int .i64 x3]) (.int .i64 2)).run Try.prog w = .ok (.int .i64 x2) w := fun w => by kernel_rfl
      have hix3 : ∀ w : World, (Instr.index 63 (.agg #[.int .i64 x0, .int .i64 x1, .int .i64 x2, .int .i64 x3]) (.int .i64 3)).run Try.prog w = .ok (.int .i64 x3) w := fun w => by kernel_rfl
      go_wp2
      go_loopw [3, 25] (fun v i wr => ∃ k : Nat, k ≤ 4 ∧ i = .int .i64 k ∧ Own kNews 38 wr r v (xs ++ marksTo M k) ∧ Below r w wr) (fun _ i _ => 4 - (intOf i).toNat)
      case atStart => exact ⟨0, Nat.zero_le _, rfl, by simpa [marksTo] using HO.out, hBr⟩
      case round =>
        obtain ⟨k, hk, rfl, hO, hB⟩ := hrel
        have hml := marksTo_len M k
        have hrl2 : r ≤ wr.heap.size := hr ▸ hB.size
        have HO2 := Lib.hid hO
        clear hO
        obtain rfl | rfl | rfl | rfl | rfl : k = 0 ∨ k = 1 ∨ k = 2 ∨ k = 3 ∨ k = 4 := by omega
        · by_cases hpos : 0 < x0
          · have hmt : marksTo M (0 + 1) = marksTo M 0 ++ [⟨3, 0, 0, 0, ⟨x0, 0, 0⟩⟩] := by rw [marksTo_succ, Hx0.out]; simp [markN, hpos]
            have Hmt := Lib.hid hmt
            clear hmt
            go_wp2_with (at_builtin; refine Kd.R_append kNews (w0 := w) r rfl (.tmp 31) (.tmp 36) 22 38 (.agg #[(.int .i64 0), (.int .i64 0), (.int .i64 0), (.int .i64 0), (.int .i64 0), (.int .i64 0), (.int .i64 0)]) 56 rfl Try.underlying22 info_news rfl (by decide) (by omega) _ (xs ++ marksTo M 0) ⟨3, 0, 0, 0, ⟨x0, 0, 0⟩⟩ [.int .i64 3, .int .i64 0, .int .i64 0, .int .i64 0, .int .i64 x0, .int .i64 0, .int .i64 0] (fun _ => True) (fun _ => False) rfl rfl ?aP (fun _ hk => hk.elim) ?aF ?aO ?aB ?aS ?aL ?_; (case aP => exact kNews_mkM _ _ _ _); (case aF => exact (fun _ _ => trivial)); (case aO => exact HO2.out); (case aB => exact hB); (case aS => exact hrl2); (case aL => (rw [List.length_append]; omega)); intro v7 w7 ho7 hb7 hg7 hat7)
            exact ⟨⟨0 + 1, by omega, by go_num, by rw [Hmt.out, ← List.append_assoc]; exact ho7, hb7⟩, by simp [intOf]⟩
          · have hmt : marksTo M (0 + 1) = marksTo M 0 := by rw [marksTo_succ, Hx0.out]; simp [markN, hpos]
            have Hmt := Lib.hid hmt
            clear hmt
            go_wp2
            exact ⟨⟨0 + 1, by omega, by go_num, by rw [Hmt.out]; exact HO2.out, hB⟩, by simp [intOf]⟩
        · by_cases hpos : 0 < x1
          · have hmt : marksTo M (1 + 1) = marksTo M 1 ++ [⟨3, 1, 0, 0, ⟨x1, 0, 0⟩⟩] := by rw [marksTo_succ, Hx1.out]; simp [markN, hpos]
            have Hmt := Lib.hid hmt
            clear hmt
            go_wp2_with (at_builtin; refine Kd.R_append kNews (w0 := w) r rfl (.tmp 31) (.tmp 36) 22 38 (.agg #[(.int .i64 0), (.int .i64 0), (.int .i64 0), (.int .i64 0), (.int .i64 0), (.int .i64 0), (.int .i64 0)]) 56 rfl Try.underlying22 info_news rfl (by decide) (by omega) _ (xs ++ marksTo M 1) ⟨3, 1, 0, 0, ⟨x1, 0, 0⟩⟩ [.int .i64 3, .int .i64 1, .int .i64 0, .int .i64 0, .int .i64 x1, .int .i64 0, .int .i64 0] (fun _ => True) (fun _ => False) rfl rfl ?aP (fun _ hk => hk.elim) ?aF ?aO ?aB ?aS ?aL ?_; (case aP => exact kNews_mkM _ _ _ _); (case aF => exact (fun _ _ => trivial)); (case aO => exact HO2.out); (case aB => exact hB); (case aS => exact hrl2); (case aL => (rw [List.length_append]; omega)); intro v7 w7 ho7 hb7 hg7 hat7)
            exact ⟨⟨1 + 1, by omega, by go_num, by rw [Hmt.out, ← List.append_assoc]; exact ho7, hb7⟩, by simp [intOf]⟩
          · have hmt : marksTo M (1 + 1) = marksTo M 1 := by rw [marksTo_succ, Hx1.out]; simp [markN, hpos]
            have Hmt := Lib.hid hmt
            clear hmt
            go_wp2
            exact ⟨⟨1 + 1, by omega, by go_num, by rw [Hmt.out]; exact HO2.out, hB⟩, by simp [intOf]⟩
        · by_cases hpos : 0 < x2
          · have hmt : marksTo M (2 + 1) = marksTo M 2 ++ [⟨3, 2, 0, 0, ⟨x2, 0, 0⟩⟩] := by rw [marksTo_succ, Hx2.out]; simp [markN, hpos]
            have Hmt := Lib.hid hmt
            clear hmt
            go_wp2_with (at_builtin; refine Kd.R_append kNews (w0 := w) r rfl (.tmp 31) (.tmp 36) 22 38 (.agg #[(.int .i64 0), (.int .i64 0), (.int .i64 0), (.int .i64 0), (.int .i64 0), (.int .i64 0), (.int .i64 0)]) 56 rfl Try.underlying22 info_news rfl (by decide) (by omega) _ (xs ++ marksTo M 2) ⟨3, 2, 0, 0, ⟨x2, 0, 0⟩⟩ [.int .i64 3, .int .i64 2, .int .i64 0, .int .i64 0, .int .i64 x2, .int .i64 0, .int .i64 0] (fun _ => True) (fun _ => False) rfl rfl ?aP (fun _ hk => hk.elim) ?aF ?aO ?aB ?aS ?aL ?_; (case aP => exact kNews_mkM _ _ _ _); (case aF => exact (fun _ _ => trivial)); (case aO => exact HO2.out); (case aB => exact hB); (case aS => exact hrl2); (case aL => (rw [List.length_append]; omega)); intro v7 w7 ho7 hb7 hg7 hat7)
            exact ⟨⟨2 + 1, by omega, by go_num, by rw [Hmt.out, ← List.append_assoc]; exact ho7, hb7⟩, by simp [intOf]⟩
          · have hmt : marksTo M (2 + 1) = marksTo M 2 := by rw [marksTo_succ, Hx2.out]; simp [markN, hpos]
            have Hmt := Lib.hid hmt
            clear hmt
            go_wp2
            exact ⟨⟨2 + 1, by omega, by go_num, by rw [Hmt.out]; exact HO2.out, hB⟩, by simp [intOf]⟩
        · by_cases hpos : 0 < x3
          · have hmt : marksTo M (3 + 1) = marksTo M 3 ++ [⟨3, 3, 0, 0, ⟨x3, 0, 0⟩⟩] := by rw [marksTo_succ, Hx3.out]; simp [markN, hpos]
            have Hmt := Lib.hid hmt
            clear hmt
            go_wp2_with (at_builtin; refine Kd.R_append kNews (w0 := w) r rfl (.tmp 31) (.tmp 36) 22 38 (.agg #[(.int .i64 0), (.int .i64 0), (.int .i64 0), (.int .i64 0), (.int .i64 0), (.int .i64 0), (.int .i64 0)]) 56 rfl Try.underlying22 info_news rfl (by decide) (by omega) _ (xs ++ marksTo M 3) ⟨3, 3, 0, 0, ⟨x3, 0, 0⟩⟩ [.int .i64 3, .int .i64 3, .int .i64 0, .int .i64 0, .int .i64 x3, .int .i64 0, .int .i64 0] (fun _ => True) (fun _ => False) rfl rfl ?aP (fun _ hk => hk.elim) ?aF ?aO ?aB ?aS ?aL ?_; (case aP => exact kNews_mkM _ _ _ _); (case aF => exact (fun _ _ => trivial)); (case aO => exact HO2.out); (case aB => exact hB); (case aS => exact hrl2); (case aL => (rw [List.length_append]; omega)); intro v7 w7 ho7 hb7 hg7 hat7)
            exact ⟨⟨3 + 1, by omega, by go_num, by rw [Hmt.out, ← List.append_assoc]; exact ho7, hb7⟩, by simp [intOf]⟩
          · have hmt : marksTo M (3 + 1) = marksTo M 3 := by rw [marksTo_succ, Hx3.out]; simp [markN, hpos]
            have Hmt := Lib.hid hmt
            clear hmt
            go_wp2
            exact ⟨⟨3 + 1, by omega, by go_num, by rw [Hmt.out]; exact HO2.out, hB⟩, by simp [intOf]⟩
        · have hjl2 : (xs ++ marksTo M 4).length < 4611686018427387904 := by rw [List.length_append]; omega
          go_wp2_with (first | (go_at_call 75; (with_reducible refine (hist_sortedN _ _ _ r HO2.out hrl2 hjl2).mono ?_); rintro e w5 ⟨rfl, ys, h1, h2, h3, h4⟩))
          go_ret
          subst hr
          refine ⟨_, ys, rfl, h3, ⟨h1.trans ?_, h2⟩, below_trans hB h4⟩
          rw [← Hoe.out]
          exact List.Perm.append_right _ Hp.out
    · intro i k v w4 hi hni hrg4 hg4 hs4 hen
      obtain ⟨x, hix, rfl⟩ := mapV_at hi
      have hO4 := own_grown hO hg4 hrit hne1
      have hs5 := hs.grown hg4 (fun e => hgr (Option.some.inj e)) (fun e => hbr (Option.some.inj e))
      have hB4 : Below r w w4 := hBr.grown hg4 hrl (fun j hj => by cases hj; omega)
      have hmet := hrg.met
      have hjl := hrg4.len
      have Hmet := Lib.hid hmet
      rw [List.length_append, List.length_singleton] at hjl
      have hw4 : r ≤ w4.heap.size := by rw [hs4]; exact hrl
      clear hs4 hg4 hO hs hBr hrit hne1 hi hrg hmet
      go_upto_region 5 with (fail)
      have hbx : Below w4.heap.size w4 (w4.alloc (.cells #[.int .i64 x.do_, .int .i64 x.src, .int .i64 x.id, .int .i64 x.ver, .int .i64 x.body.at_, .int .i64 x.body.key, .int .i64 x.body.val] 38)) := below_alloc (Below.refl _ _) _
      obtain ⟨i0, i1, i2, i3, i4, i5, i6⟩ := box_news w4 x
      have hrg5 := hrg4.later hbx
      have hs6 := hs5.later hbx
      have hO5 := own_later hO4 hbx
      have hbw : Below r w (w4.alloc (.cells #[.int .i64 x.do_, .int .i64 x.src, .int .i64 x.id, .int .i64 x.ver, .int .i64 x.body.at_, .int .i64 x.body.key, .int .i64 x.body.val] 38)) := below_trans hB4 (below_lower hbx hw4)
      have hw5 : r ≤ (w4.alloc (.cells #[.int .i64 x.do_, .int .i64 x.src, .int .i64 x.id, .int .i64 x.ver, .int .i64 x.body.at_, .int .i64 x.body.key, .int .i64 x.body.val] 38)).heap.size := Nat.le_trans hw4 hbx.size
      clear hen hbx hO4 hrg4 hs5 hB4 hs3 hg3
      generalize (w4.alloc (.cells #[.int .i64 x.do_, .int .i64 x.src, .int .i64 x.id, .int .i64 x.ver, .int .i64 x.body.at_, .int .i64 x.body.key, .int .i64 x.body.val] 38)) = w5 at *
      generalize w4.heap.size = r4 at *
      have HO5 := Lib.hid hO5
      have hjn := newsJ_len L js
      clear hO5
      go_wp2_with (at_builtin; refine Kd.R_append kNews (w0 := w) r rfl (.tmp 17) (.tmp 19) 22 38 (.agg #[(.int .i64 0), (.int .i64 0), (.int .i64 0), (.int .i64 0), (.int .i64 0), (.int .i64 0), (.int .i64 0)]) 56 rfl Try.underlying22 info_news rfl (by decide) (by omega) _ (newsJ L js) x [.int .i64 x.do_, .int .i64 x.src, .int .i64 x.id, .int .i64 x.ver, .int .i64 x.body.at_, .int .i64 x.body.key, .int .i64 x.body.val] (fun _ => True) (fun _ => False) rfl rfl ?aP (fun _ hk => hk.elim) ?aF ?aO ?aB ?aS ?aL ?_; (case aP => exact kNews_mkM _ _ _ _); (case aF => exact (fun _ _ => trivial)); (case aO => exact HO5.out); (case aB => exact hbw); (case aS => exact hw5); (case aL => omega); intro v7 w7 ho7 hb7 hg7 hat7)
      go_roundw
      case rel =>
        have hrg7 := hrg5.grown hg7 (ne_ownBlock HO5.out hrg5.1 (fun c h => by simp [mapObj] at h)) (ne_ownBlock HO5.out hrg5.2.1 (fun c h => by cases h))
        refine ⟨js ++ [i], hrg7, hs6.grown hg7 (ne_ownBlock HO5.out hs6.cells (fun c h => by cases h)) (ne_ownBlock HO5.out hs6.map (fun c h => by simp [mapObj] at h)), ?_, hb7⟩
        rw [newsJ_snoc hix]
        exact ho7
      case measure =>
        have hrg7 := hrg5.grown hg7 (ne_ownBlock HO5.out hrg5.1 (fun c h => by simp [mapObj] at h)) (ne_ownBlock HO5.out hrg5.2.1 (fun c h => by cases h))
        rw [hrg7.met, Hmet.out, List.length_append, List.length_singleton]
        omega
def LeastRes (f : Bool) (xs : List News) (w : World) (e : Ending) (w' : World) : Prop := ∃ v ys, e = .returned (.tuple #[v, .int .i64 (if f then 0 else 2)]) ∧ Own kNews 38 w' w.heap.size v ys ∧ (f = true → SortN xs ys) ∧ (f = false → ys = []) ∧ Below w.heap.size w w'
set_option maxRecDepth 100000 in
set_option maxHeartbeats 1000000 in
theorem hist_Least (l : List News) (A : Option Addr) (c : Nat) (srcs : Int) (w : World) (hr : NewsRow w A l.length l) (hc : l.length ≤ c) :
    Calls Try.prog 21 #[.slice A l.length c, .int .i64 srcs] w (LeastRes (formedB l srcs) (leastL (hearAll l)) w) := by
  have Hr := Lib.hid hr
  clear hr
  cases hf : formedB l srcs
  · go_enter Try.func21, Try.ntmps21
    go_wp2_with (first | (go_at_call 40; (with_reducible refine (hist_formed l A c srcs _ Hr.out hc).mono ?_); rintro e w' ⟨rfl, hb⟩))
    go_ret2
    exact ⟨_, [], rfl, Kd.R_nil _ _ _ _ _, fun h => (by cases h), fun _ => rfl, hb⟩
  · have hsrc := Lib.hid (plainB_heard (formedB_plain hf))
    have hlen := (plainB_src (formedB_plain hf)).2.1
    have hL := hearAll_len l
    have hL2 : (hearAll l).1.length ≤ 1000 := by omega
    clear hL hlen
    obtain ⟨s, hs⟩ : ∃ s, hearAll l = s := ⟨_, rfl⟩
    rw [hs] at hL2 ⊢
    have Hs := Lib.hid hs
    clear hs
    go_enter Try.func21, Try.ntmps21
    go_wp2_with (first
      | (go_at_call 40; (with_reducible refine (hist_formed l A c srcs _ Hr.out hc).mono ?_); rintro e w1 ⟨rfl, hb1⟩)
      | (go_at_call 41; (with_reducible refine (hist_all l A c _ (news_later Hr.out hb1) hsrc.out).mono ?_); rintro e w2 ⟨g, b, rfl, hg, hb, hs2, hb2⟩; rw [Hs.out] at hs2)
      | (go_at_call 53; (with_reducible refine (hist_least g b s.1 s.2 _ hs2 hL2).mono ?_); rintro e w3 ⟨v, ys, rfl, hO, hS, hb3⟩))
    go_ret2
    have hB := below_step hb1 hb2
    exact ⟨v, ys, rfl, own_lower hO hB.size, fun _ => hS, fun h => (by cases h), below_step hB hb3⟩
end Go.Proofs.Ytdpkpibcjbllcaa
set_option linter.unusedVariables false
set_option linter.unusedSimpArgs false
/-! The package's functions, sixth part: Same. -/
namespace Go.Proofs.Ytdpkpibcjbllcaa
open Go.RowKit Go.Proofs.YtdpkpibcjbllcaaW.PrintWords

theorem eqMarks (w : World) (x0 x1 x2 x3 y0 y1 y2 y3 : Int) : (Op.equalIn 10000 63 (.agg #[.int .i64 x0, .int .i64 x1, .int .i64 x2, .int .i64 x3]) (.agg #[.int .i64 y0, .int .i64 y1, .int .i64 y2, .int .i64 y3])).run Try.prog w = .ok (decide ([x0, x1, x2, x3] = [y0, y1, y2, y3])) w := by
  obtain ⟨i, hi, _⟩ := Option.map_eq_some_iff.1 info_int
  rw [run_equalIn_array (d := 9999) _ _ _ Try.underlying63 hi]
  have hr : List.range 4 = [0, 1, 2, 3] := rfl
  have hc : Try.prog.cellsOf 3 = 1 := by kernel_rfl
  rw [hr, hc]
  have hp : ∀ (cs : Array Value) (j : Nat) (w : World), (part 3 cs j).run Try.prog w = (part 3 cs j).run Try.prog w := fun _ _ _ => rfl
  by_cases h0 : x0 = y0
  · by_cases h1 : x1 = y1
    · by_cases h2 : x2 = y2
      · by_cases h3 : x3 = y3
        · simp only [Op.eqItems]; go_simp
        · simp only [Op.eqItems]; go_simp
      · simp only [Op.eqItems]; go_simp
    · simp only [Op.eqItems]; go_simp
  · simp only [Op.eqItems]; go_simp
theorem len_mapObj {W : World} {b : Nat} {L : List (Key × News)} (ty : TypeId) (h : W.heap[b]? = some (mapObj encKey (mapV newsVal L))) : (Builtin.len_ #[62] ty #[.map (some b)]).run Try.prog W = .ok (.int .i64 L.length) W := by
  have h2 : W.heap[b]? = some (.map (entsFrom encKey 0 (mapV newsVal L)).toArray (mapV newsVal L).length) := h
  have h3 := run_len_map (P := Try.prog) (w := W) 62 ty b _ _ (by kernel_rfl) h2
  rw [h3]
  simp [goInt, entsFrom_length, mapV]
def SameRes (f : Bool) (s1 s2 : List (Key × News) × List Int) (w : World) (e : Ending) (w' : World) : Prop :=
  (f = false → e = .returned (.tuple #[.bool false, .int .i64 2])) ∧
  (f = true → ∃ r, e = .returned (.tuple #[.bool r, .int .i64 0]) ∧ ((¬ (s1.2 = s2.2 ∧ s1.1.length = s2.1.length) ∧ r = false) ∨ (s1.2 = s2.2 ∧ s1.1.length = s2.1.length ∧ ∃ ys1 ys2, SortN (leastL s1) ys1 ∧ SortN (leastL s2) ys2 ∧ r = decide (ys1 = ys2)))) ∧ Below w.heap.size w w'
set_option maxRecDepth 100000 in
set_option maxHeartbeats 4000000 in
theorem hist_Same (l m : List News) (A B : Option Addr) (c c2 : Nat) (srcs : Int) (w : World) (hr : NewsRow w A l.length l) (hc : l.length ≤ c) (hr2 : NewsRow w B m.length m) (hc2 : m.length ≤ c2) :
    Calls Try.prog 36 #[.slice A l.length c, .slice B m.length c2, .int .i64 srcs] w (SameRes (formedB l srcs && formedB m srcs) (hearAll l) (hearAll m) w) := by
  have Hr := Lib.hid hr
  have Hr2 := Lib.hid hr2
  clear hr hr2
  cases hf : formedB l srcs
  · go_enter Try.func36, Try.ntmps36
    go_wp2_with (first | (go_at_call 40; (with_reducible refine (hist_formed l A c srcs _ Hr.out hc).mono ?_); rintro e w' ⟨rfl, hb⟩))
    go_ret2
    exact ⟨fun _ => rfl, fun h => (by cases h), hb⟩
  · cases hf2 : formedB m srcs
    · go_enter Try.func36, Try.ntmps36
      go_wp2_with (first | (go_at_call 40; (with_reducible refine (hist_formed l A c srcs _ Hr.out hc).mono ?_); rintro e w' ⟨rfl, hb⟩) | (go_at_call 40; (with_reducible refine (hist_formed m B c2 srcs _ (news_later Hr2.out hb) hc2).mono ?_); rintro e w'' ⟨rfl, hb2⟩))
      go_ret2
      exact ⟨fun _ => rfl, fun h => (by cases h), below_step hb hb2⟩
    · have hsrc := Lib.hid (plainB_heard (formedB_plain hf))
      have hsrc2 := Lib.hid (plainB_heard (formedB_plain hf2))
      have hL := hearAll_len l
      have hL2 := hearAll_len m
      have hL3 := (plainB_src (formedB_plain hf)).2.1
      have hL4 := (plainB_src (formedB_plain hf2)).2.1
      have hll1 : (hearAll l).1.length ≤ 1000 := by omega
      have hll2 : (hearAll m).1.length ≤ 1000 := by omega
      clear hL hL2 hL3 hL4
      obtain ⟨s1, hs1⟩ : ∃ s, hearAll l = s := ⟨_, rfl⟩
      obtain ⟨s2, hs2⟩ : ∃ s, hearAll m = s := ⟨_, rfl⟩
      rw [hs1] at hll1 ⊢
      rw [hs2] at hll2 ⊢
      have Hs1 := Lib.hid hs1
      have Hs2 := Lib.hid hs2
      clear hs1 hs2
      go_enter Try.func36, Try.ntmps36
      go_upto_region 4 with (first
        | (go_at_call 40; (with_reducible refine (hist_formed l A c srcs _ Hr.out hc).mono ?_); rintro e w1 ⟨rfl, hb1⟩)
        | (go_at_call 40; (with_reducible refine (hist_formed m B c2 srcs _ (news_later Hr2.out hb1) hc2).mono ?_); rintro e w2 ⟨rfl, hb2⟩)
        | (go_at_call 41; (with_reducible refine (hist_all l A c _ (news_later Hr.out (below_step hb1 hb2)) hsrc.out).mono ?_); rintro e w3 ⟨g1, b1, rfl, hg1, hbb1, hh1, hb3⟩; rw [Hs1.out] at hh1)
        | (go_at_call 41; (with_reducible refine (hist_all m B c2 _ (news_later Hr2.out (below_step (below_step hb1 hb2) hb3)) hsrc2.out).mono ?_); rintro e w4 ⟨g2, b2, rfl, hg2, hbb2, hh2, hb4⟩; rw [Hs2.out] at hh2))
      replace hh1 := hh1.later hb4
      have hB := below_step (below_step (below_step hb1 hb2) hb3) hb4
      clear hb1 hb2 hb3 hb4 hg1 hbb1 hg2 hbb2
      obtain ⟨L1, M1⟩ := s1
      obtain ⟨L2, M2⟩ := s2
      obtain ⟨x0, x1, x2, x3, hM1⟩ : ∃ a b c d, M1 = [a, b, c, d] := (by have := hh1.len; match M1, this with | [a, b, c, d], _ => exact ⟨a, b, c, d, rfl⟩)
      obtain ⟨y0, y1, y2, y3, hM2⟩ : ∃ a b c d, M2 = [a, b, c, d] := (by have := hh2.len; match M2, this with | [a, b, c, d], _ => exact ⟨a, b, c, d, rfl⟩)
      have HM1 := Lib.hid hM1
      have HM2 := Lib.hid hM2
      have p0 := hh1.mark 0 (by omega)
      have p1 := hh1.mark 1 (by omega)
      have p2 := hh1.mark 2 (by omega)
      have p3 := hh1.mark 3 (by omega)
      have q0 := hh2.mark 0 (by omega)
      have q1 := hh2.mark 1 (by omega)
      have q2 := hh2.mark 2 (by omega)
      have q3 := hh2.mark 3 (by omega)
      rw [hM1] at p0 p1 p2 p3
      rw [hM2] at q0 q1 q2 q3
      simp only [List.getD_cons_zero, List.getD_cons_succ, Nat.reduceAdd] at p0 p1 p2 p3 q0 q1 q2 q3
      have pc := hh1.cell
      have qc := hh2.cell
      have hm1 := hh1.map
      have hm2 := hh2.map
      have heq := fun w => eqMarks w x0 x1 x2 x3 y0 y1 y2 y3
      have hgl1 := World.block_lt_of_cell? _ _ hh1.cell
      have hgl2 := World.block_lt_of_cell? _ _ hh2.cell
      clear hM1 hM2
      cases hme : decide ([x0, x1, x2, x3] = [y0, y1, y2, y3])
      · rw [hme] at heq
        have Hme := Lib.hid hme
        clear hme
        go_quiet (fail)
        go_wp2
        go_ret2
        refine ⟨fun h => (by cases h), fun _ => ⟨false, rfl, .inl ⟨?_, rfl⟩⟩, (by repeat (first | exact Below.refl _ _ | assumption | apply below_alloc | apply below_drew1 | apply pw_below_drewN | refine below_step ?_ (by assumption)))⟩
        rintro ⟨h1, _⟩
        have := of_decide_eq_false Hme.out
        rw [← HM1.out, ← HM2.out] at this
        exact this h1
      · rw [hme] at heq
        have Hme := Lib.hid hme
        have hM12 : M1 = M2 := by rw [HM1.out, HM2.out]; exact of_decide_eq_true hme
        have HM12 := Lib.hid hM12
        clear hme hM12
        have hk1 : L1.length ≤ 1000 := hll1
        have hk2 : L2.length ≤ 1000 := hll2
        clear hll1 hll2
        by_cases hle : L1.length = L2.length
        · have hln : ((L1.length : Int) != (L2.length : Int)) = false := by simp [hle]
          have Hle := Lib.hid hle
          clear hle
          refine wp_region_in (fun W => Below w4.heap.size w4 W) (by kernel_rfl) (by kernel_rfl) (below_drew1 (Below.refl _ _)) ?_
          go_simp
          repeat (refine wpQuiet_step (fun K hK => ?_); go_simp; first | (refine hK _ ?_; clear hK K) | (apply Exists.intro; refine ⟨fun W hC => ?_, hK _ ?_⟩; (first | rfl | (have a0 := cell_later' hC p0; have a1 := cell_later' hC p1; have a2 := cell_later' hC p2; have a3 := cell_later' hC p3; have b0 := cell_later' hC q0; have b1 := cell_later' hC q1; have b2 := cell_later' hC q2; have b3 := cell_later' hC q3; have ac := cell_later' hC pc; have bc := cell_later' hC qc; have n1 := fun ty => len_mapObj (L := L1) ty (heap_later hC hm1); have n2 := fun ty => len_mapObj (L := L2) ty (heap_later hC hm2); go_simp; rfl)); clear hK K))
          refine wpQuiet_nil ?_
          intro W hC
          have HC := Lib.hid hC
          clear hC
          have hh1' := hh1.later HC.out
          have hh2' := hh2.later HC.out
          have hBW := below_step hB HC.out
          clear hh1 hh2 hB
          go_wp2_with (first
            | (go_at_call 53; (with_reducible refine (hist_least g1 b1 L1 M1 _ hh1' hk1).mono ?_); rintro e w5 ⟨v5, ys5, rfl, hO5, hS5, hb5⟩; obtain ⟨A5, c5, rfl, _, hr5⟩ := own_reads' hO5)
            | (go_at_call 53; (with_reducible refine (hist_least g2 b2 L2 M2 _ (hh2'.later hb5) hk2).mono ?_); rintro e w6 ⟨v6, ys6, rfl, hO6, hS6, hb6⟩; obtain ⟨A6, c6, rfl, _, hr6⟩ := own_reads' hO6; have Hr6 := Lib.hid hr6; have Hr5 := Lib.hid (Kd.C_below hr5 hb6); clear hr6 hr5 hO5 hO6)
            | (go_at_call 62; (with_reducible refine (eq_news ys5 ys6 _ _ _ _ _ Hr5.out Hr6.out).mono ?_); rintro e w7 ⟨rfl, hb7⟩))
          go_ret2
          exact ⟨fun h => (by cases h), fun _ => ⟨_, rfl, .inr ⟨HM12.out, Hle.out, ys5, ys6, hS5, hS6, rfl⟩⟩, below_step (below_step (below_step hBW hb5) hb6) hb7⟩
        · have hln : ((L1.length : Int) != (L2.length : Int)) = true := by simp; omega
          have Hle := Lib.hid hle
          clear hle
          refine wp_region_in (fun W => Below w4.heap.size w4 W) (by kernel_rfl) (by kernel_rfl) (below_drew1 (Below.refl _ _)) ?_
          go_simp
          repeat (refine wpQuiet_step (fun K hK => ?_); go_simp; first | (refine hK _ ?_; clear hK K) | (apply Exists.intro; refine ⟨fun W hC => ?_, hK _ ?_⟩; (first | rfl | (have a0 := cell_later' hC p0; have a1 := cell_later' hC p1; have a2 := cell_later' hC p2; have a3 := cell_later' hC p3; have b0 := cell_later' hC q0; have b1 := cell_later' hC q1; have b2 := cell_later' hC q2; have b3 := cell_later' hC q3; have ac := cell_later' hC pc; have bc := cell_later' hC qc; have n1 := fun ty => len_mapObj (L := L1) ty (heap_later hC hm1); have n2 := fun ty => len_mapObj (L := L2) ty (heap_later hC hm2); go_simp; rfl)); clear hK K))
          refine wpQuiet_nil ?_
          intro W hC
          have HC := Lib.hid hC
          clear hC
          go_wp2
          go_ret2
          refine ⟨fun h => (by cases h), fun _ => ⟨false, rfl, .inl ⟨?_, rfl⟩⟩, (by repeat (first | exact Below.refl _ _ | assumption | apply below_alloc | apply below_drew1 | apply pw_below_drewN | refine below_step ?_ (by assumption)))⟩
          rintro ⟨_, h1⟩
          exact Hle.out h1
end Go.Proofs.Ytdpkpibcjbllcaa
set_option linter.unusedVariables false
set_option linter.unusedSimpArgs false
/-! The chapter's example, reckoned. -/
namespace Go.Proofs.Ytdpkpibcjbllcaa
open Go.RowKit Go.Proofs.YtdpkpibcjbllcaaW.PrintWords

def sayN (s i v a k x : Int) : News := ⟨1, s, i, v, ⟨a, k, x⟩⟩
def exN : List News := [sayN 0 1 1 10 1 5, sayN 1 1 1 4 1 2, sayN 0 2 1 12 1 7, ⟨3, 0, 0, 0, ⟨11, 0, 0⟩⟩, sayN 0 1 2 10 1 6, ⟨2, 1, 1, 3, ⟨0, 0, 0⟩⟩, sayN 1 1 2 4 1 9, ⟨3, 1, 0, 0, ⟨5, 0, 0⟩⟩]
theorem ex_formed : formedB exN 2 = true := by decide +kernel
theorem ex_formed5 : formedB (exN.take 4 ++ [sayN 0 1 2 10 1 6]) 2 = true := by decide +kernel
theorem ex_heard : hearAll exN = ([(⟨0, 1⟩, sayN 0 1 2 10 1 6), (⟨1, 1⟩, ⟨2, 1, 1, 3, ⟨0, 0, 0⟩⟩), (⟨0, 2⟩, sayN 0 2 1 12 1 7)], [11, 5, 0, 0]) := by decide +kernel
theorem ex_out : outE exN = [⟨0, 1, ⟨10, 1, 6⟩⟩, ⟨0, 2, ⟨12, 1, 7⟩⟩] := by decide +kernel
theorem ex_marks : marksOf exN 2 = [11, 5] := by decide +kernel
theorem ex_late : lateOf exN = [4] := by decide +kernel
theorem ex_least : leastL (hearAll exN) = [sayN 0 1 2 10 1 6, ⟨2, 1, 1, 3, ⟨0, 0, 0⟩⟩, sayN 0 2 1 12 1 7, ⟨3, 0, 0, 0, ⟨11, 0, 0⟩⟩, ⟨3, 1, 0, 0, ⟨5, 0, 0⟩⟩] := by decide +kernel
theorem ex_step : stepOf (hearAll (exN.take 4)).1 (sayN 0 1 2 10 1 6) = ([⟨0, 1, ⟨10, 1, 5⟩⟩], [⟨0, 1, ⟨10, 1, 6⟩⟩]) := by decide +kernel
theorem ex_clash : clashR exN 2 = (0, 0, 5) := by decide +kernel
theorem ex_clash2 : clashR (exN ++ [sayN 1 1 3 4 1 2]) 2 = (5, 8, 0) := by decide +kernel
end Go.Proofs.Ytdpkpibcjbllcaa
