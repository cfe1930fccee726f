/-
  Texts of one hand, laid together: Pure1, OpenN, OpenB.
-/
import Derived.Test.YtdpkpibcjbllcaaZF
import Derived.Test.YtdpkpibcjbllcaaZA
import Derived.Deep.Slices
import Derived.SizedLaws
import Derived.ChangeSlices
set_option linter.unusedVariables false
set_option linter.unusedSimpArgs false
/-! The reference's checks, plainly. -/
namespace Go.Proofs.Ytdpkpibcjbllcaa
open Go.RowKit Go.Proofs.YtdpkpibcjbllcaaW.PrintWords PRef

/-- With fuel enough. -/
def Ev {α : Type} (f : Nat → Option α) (r : α) : Prop := ∃ k0, ∀ k, k0 ≤ k → f k = some r
theorem Ev.succ {α : Type} {f : Nat → Option α} {g : Nat → Option α} {r : α} (h : Ev g r) (he : ∀ k, f (k + 1) = g k) : Ev f r := by
  obtain ⟨k0, hk⟩ := h
  refine ⟨k0 + 1, fun k hk' => ?_⟩
  obtain ⟨j, rfl⟩ : ∃ j, k = j + 1 := ⟨k - 1, by omega⟩
  rw [he]
  exact hk j (by omega)
theorem Ev.const {α : Type} {f : Nat → Option α} {r : α} (he : ∀ k, f (k + 1) = some r) : Ev f r := by
  refine ⟨1, fun k hk' => ?_⟩
  obtain ⟨j, rfl⟩ : ∃ j, k = j + 1 := ⟨k - 1, by omega⟩
  exact he j
theorem in_f (a b c : Int) : afterwordref05_in.f a b c = some (inB a b c) := by
  unfold afterwordref05_in.f inB
  by_cases h : b ≤ a
  · simp [h]
  · simp [h]
theorem rec_f (x : Rec) : afterwordref05_Rec.f x.at_ x.key x.val = some (recB x) := by
  unfold afterwordref05_Rec.f recB
  simp only [in_f, Option.bind_some]
  cases inB x.at_ 0 200 <;> cases inB x.key (-1000000000) 1000000000 <;> simp
theorem wrap_id (x : Int) (h0 : -9223372036854775808 ≤ x) (h1 : x < 9223372036854775808) : wrap64 x = x := by
  unfold wrap64
  omega
theorem good_f (n : News) (srcs : Int) (h1 : 1 ≤ srcs) (h4 : srcs ≤ 4) : afterwordref05_Good.f n.do_ n.src n.id n.ver n.body.at_ n.body.key n.body.val srcs = some (goodB n srcs) := by
  unfold afterwordref05_Good.f goodB
  rw [wrap_id (srcs - 1) (by omega) (by omega)]
  simp only [in_f, Option.bind_some]
  cases inB n.src 0 (srcs - 1)
  · simp
  · simp only [if_true, Bool.true_and]
    by_cases d1 : n.do_ = 1
    · rw [if_pos d1, if_pos d1]
      have hr := rec_f n.body
      unfold saidB
      rw [hr]
      cases inB n.id 0 999 <;> cases inB n.ver 1 99 <;> simp
    · rw [if_neg d1, if_neg d1]
      by_cases d2 : n.do_ = 2
      · rw [if_pos d2, if_pos d2]
        unfold goneB saidB recEq
        cases h5 : inB n.id 0 999
        · simp
        · cases h6 : inB n.ver 1 99
          · simp
          · have e : (n.body.at_ == 0 && (n.body.key == 0 && n.body.val == 0)) = (recB n.body && decide (n.body = ⟨0, 0, 0⟩)) := by
              obtain ⟨a, b, c⟩ := n.body
              rw [Bool.eq_iff_iff]
              simp only [Bool.and_eq_true, beq_iff_eq, decide_eq_true_eq, Rec.mk.injEq, recB, inB]
              constructor
              · rintro ⟨rfl, rfl, rfl⟩; simp
              · rintro ⟨_, h1, h2, h3⟩; exact ⟨h1, h2, h3⟩
            simp [e]
      · rw [if_neg d2, if_neg d2]
        by_cases d3 : n.do_ = 3
        · rw [if_pos d3, if_pos d3]
          unfold markedB recEq
          by_cases i0 : n.id = 0
          · by_cases v0 : n.ver = 0
            · rw [if_pos i0, if_pos v0]
              cases hb : decide (n.body = (⟨n.body.at_, 0, 0⟩ : Rec))
              · have : (n.body.key == 0 && n.body.val == 0) = false := by
                  have hb' := of_decide_eq_false hb
                  rw [Bool.eq_false_iff]
                  intro hc
                  simp only [Bool.and_eq_true, beq_iff_eq] at hc
                  apply hb'
                  generalize n.body = bd at hc
                  obtain ⟨a, b, c⟩ := bd
                  simp at hc ⊢
                  exact hc
                simp [this]
              · have : (n.body.key == 0 && n.body.val == 0) = true := by
                  have hb' := of_decide_eq_true hb
                  rw [hb']; rfl
                simp [this, i0, v0]
            · rw [if_pos i0, if_neg v0]
              simp [v0]
          · rw [if_neg i0]
            simp [i0]
        · rw [if_neg d3, if_neg d3]
theorem rd_news (l : List News) (i : Nat) (n : News) (h : l[i]? = some n) : rd_T38 (l.map sNews) (i : Int) = sNews n := by
  unfold rd_T38
  rw [Int.toNat_natCast, List.getD_eq_getElem?_getD, List.getElem?_map, h]
  rfl
theorem plain_l0 (l : List News) (srcs : Int) (h1 : 1 ≤ srcs) (h4 : srcs ≤ 4) (hl : l.length ≤ 60) : ∀ (m p : Nat), p + m = l.length → Ev (fun k => afterwordref05_plain.l0 k (l.map sNews) srcs (p : Int)) (!((l.drop p).any fun n => !goodB n srcs))
  | 0, p, hp => by
    refine Ev.const fun k => ?_
    have : ¬ ((p : Int) < ((l.map sNews).length : Int)) := by rw [List.length_map]; omega
    simp only [afterwordref05_plain.l0]
    rw [if_neg this, List.drop_of_length_le (by omega)]
    rfl
  | m + 1, p, hp => by
    have hpl : p < l.length := by omega
    have hd : l.drop p = l[p] :: l.drop (p + 1) := List.drop_eq_getElem_cons hpl
    have hlt : ((p : Int) < ((l.map sNews).length : Int)) := by rw [List.length_map]; omega
    have hrd := rd_news l p l[p] (List.getElem?_eq_getElem hpl)
    have hg := good_f l[p] srcs h1 h4
    have hw : wrap64 ((p : Int) + 1) = ((p + 1 : Nat) : Int) := by rw [wrap_id _ (by omega) (by omega)]; omega
    rw [hd, List.any_cons]
    cases hgb : goodB l[p] srcs
    · refine Ev.const fun k => ?_
      simp only [afterwordref05_plain.l0]
      rw [if_pos hlt, if_pos (by omega), hrd]
      simp only [sNews]
      rw [hg, hgb]
      rfl
    · refine (plain_l0 l srcs h1 h4 hl m (p + 1) (by omega)).succ fun k => ?_
      simp only [afterwordref05_plain.l0]
      rw [if_pos hlt, if_pos (by omega), hrd]
      simp only [sNews]
      rw [hg, hgb, hw]
      rfl
theorem plain_f (l : List News) (srcs : Int) : Ev (fun k => afterwordref05_plain.f k (l.map sNews) srcs) (plainB l srcs) := by
  unfold afterwordref05_plain.f plainB
  simp only [in_f, Option.bind_some, List.length_map]
  cases hin : inB srcs 1 4
  · refine Ev.const fun k => ?_
    simp [afterwordref05_plain.j0]
  · have hs : 1 ≤ srcs ∧ srcs ≤ 4 := by simpa [inB] using hin
    by_cases hl : l.length ≤ 60
    · have e1 : decide ((l.length : Int) > 60) = false := by simp; omega
      have e2 : decide (l.length ≤ 60) = true := by simpa using hl
      have h := plain_l0 l srcs hs.1 hs.2 hl l.length 0 (by omega)
      rw [List.drop_zero] at h
      rw [e1, e2, Bool.true_and, Bool.true_and]
      refine h.succ fun k => ?_
      simp [afterwordref05_plain.j0]
    · have e1 : decide ((l.length : Int) > 60) = true := by simp; omega
      have e2 : decide (l.length ≤ 60) = false := by simpa using hl
      refine Ev.const fun k => ?_
      rw [e1, e2]
      simp [afterwordref05_plain.j0]
theorem clashes_f (m n : News) : afterwordref05_Clashes.f m.do_ m.src m.id m.ver m.body.at_ m.body.key m.body.val n.do_ n.src n.id n.ver n.body.at_ n.body.key n.body.val = some (clashB m n) := by
  unfold afterwordref05_Clashes.f clashB newsEq
  by_cases h1 : m.do_ = 3
  · simp [h1]
  · by_cases h2 : n.do_ = 3
    · simp [h2]
    · rw [if_neg h1, if_neg h2]
      by_cases h3 : m.src = n.src
      · by_cases h4 : m.id = n.id
        · by_cases h5 : m.ver = n.ver
          · rw [if_pos h3, if_pos h4, if_pos h5]
            have e : decide (m = n) = (m.do_ == n.do_ && (m.body.at_ == n.body.at_ && (m.body.key == n.body.key && m.body.val == n.body.val))) := by
              obtain ⟨a, b, c, d, ⟨e, f, g⟩⟩ := m
              obtain ⟨a', b', c', d', ⟨e', f', g'⟩⟩ := n
              simp only at h3 h4 h5
              subst h3 h4 h5
              rw [Bool.eq_iff_iff]
              simp
            rw [e]
            have b1 : (m.do_ == 3) = false := by simpa using h1
            have b2 : (n.do_ == 3) = false := by simpa using h2
            simp [b1, b2, h3, h4, h5, Bool.not_and]
          · simp [h1, h2, h3, h4, h5]
        · simp [h1, h2, h3, h4]
      · simp [h1, h2, h3]
def resF (p : Nat) : Option Nat → Int × Int × Bool → Int × Int × Bool
  | some j, _ => ((j : Int), (p : Int), true)
  | none, r => r
def resC : Option (Nat × Nat) → Int × Int × Bool
  | some (i, k) => ((i : Int), (k : Int), true)
  | none => (0, 0, false)
theorem clash_l1 (l : List News) (hl : l.length ≤ 9223372036854775807) (p : Nat) (n : News) (hn : l[p]? = some n) (r : Int × Int × Bool) (hr : Ev (fun k => afterwordref05_clash.l0 k (l.map sNews) ((p + 1 : Nat) : Int)) r) :
    ∀ (m i : Nat), i + m = p → Ev (fun k => afterwordref05_clash.l1 k (l.map sNews) (p : Int) (i : Int)) (resF p (clashIn n ((l.take p).drop i) i) r)
  | 0, i, hi => by
    have hpl : p < l.length := (List.getElem?_eq_some_iff.1 hn).1
    have e : (l.take p).drop i = [] := List.drop_of_length_le (by rw [List.length_take]; omega)
    rw [e]
    refine hr.succ fun k => ?_
    simp only [afterwordref05_clash.l1]
    rw [if_neg (by omega), wrap_id _ (by omega) (by omega)]
    rfl
  | m + 1, i, hi => by
    have hpl : p < l.length := (List.getElem?_eq_some_iff.1 hn).1
    have hil : i < l.length := by omega
    have e : (l.take p).drop i = l[i] :: (l.take p).drop (i + 1) := by
      have h1 : i < (l.take p).length := by rw [List.length_take]; omega
      rw [List.drop_eq_getElem_cons h1]
      simp
    rw [e]
    have hrd1 := rd_news l i l[i] (List.getElem?_eq_getElem hil)
    have hrd2 := rd_news l p n hn
    have hg := clashes_f l[i] n
    have hw : wrap64 ((i : Int) + 1) = ((i + 1 : Nat) : Int) := by rw [wrap_id _ (by omega) (by omega)]; omega
    have hx1 : ((i : Int) < ((l.map sNews).length : Int)) := by rw [List.length_map]; omega
    have hx2 : ((p : Int) < ((l.map sNews).length : Int)) := by rw [List.length_map]; omega
    simp only [clashIn]
    cases hc : clashB l[i] n
    · rw [if_neg (by simp)]
      refine (clash_l1 l hl p n hn r hr m (i + 1) (by omega)).succ fun k => ?_
      simp only [afterwordref05_clash.l1]
      rw [if_pos (by omega), if_pos (by omega), if_pos hx1, if_pos (by omega), if_pos hx2, hrd1, hrd2]
      simp only [sNews]
      rw [hg, hc, hw]
      rfl
    · rw [if_pos rfl]
      refine Ev.const fun k => ?_
      simp only [afterwordref05_clash.l1]
      rw [if_pos (by omega), if_pos (by omega), if_pos hx1, if_pos (by omega), if_pos hx2, hrd1, hrd2]
      simp only [sNews]
      rw [hg, hc]
      rfl
theorem clash_l0 (l : List News) (hl : l.length ≤ 9223372036854775807) : ∀ (m p : Nat), p + m = l.length → Ev (fun k => afterwordref05_clash.l0 k (l.map sNews) (p : Int)) (resC (clashFrom (l.take p) (l.drop p)))
  | 0, p, hp => by
    refine Ev.const fun k => ?_
    have : ¬ ((p : Int) < ((l.map sNews).length : Int)) := by rw [List.length_map]; omega
    simp only [afterwordref05_clash.l0]
    rw [if_neg this, List.drop_of_length_le (by omega)]
    rfl
  | m + 1, p, hp => by
    have hpl : p < l.length := by omega
    have hd : l.drop p = l[p] :: l.drop (p + 1) := List.drop_eq_getElem_cons hpl
    have ht : l.take p ++ [l[p]] = l.take (p + 1) := by rw [List.take_succ_eq_append_getElem hpl]
    have hx : ((p : Int) < ((l.map sNews).length : Int)) := by rw [List.length_map]; omega
    have ih := clash_l0 l hl m (p + 1) (by omega)
    have h1 := clash_l1 l hl p l[p] (List.getElem?_eq_getElem hpl) _ ih p 0 (by omega)
    have e : resC (clashFrom (l.take p) (l.drop p)) = resF p (clashIn l[p] ((l.take p).drop 0) 0) (resC (clashFrom (l.take (p + 1)) (l.drop (p + 1)))) := by
      rw [hd, clashFrom, List.drop_zero]
      cases clashIn l[p] (l.take p) 0 with
      | none => simp only [resF]; rw [ht]
      | some j =>
        simp only [resF, resC, List.length_take]
        congr 2
        rw [Nat.min_eq_left (by omega)]
    rw [e]
    refine h1.succ fun k => ?_
    simp only [afterwordref05_clash.l0]
    rw [if_pos hx]
    rfl
theorem clash_f (l : List News) (hl : l.length ≤ 9223372036854775807) : Ev (fun k => afterwordref05_clash.f k (l.map sNews)) (clashOf l) := by
  have h := clash_l0 l hl l.length 0 (by omega)
  have e : resC (clashFrom (l.take 0) (l.drop 0)) = clashOf l := by
    unfold clashOf
    simp only [List.take_zero, List.drop_zero]
    cases clashFrom [] l with
    | none => rfl
    | some q => rfl
  rw [e] at h
  exact h
theorem Ev.both {α β : Type} {f : Nat → Option α} {g : Nat → Option β} {r : α} {s : β} (h : Ev f r) (k : Ev g s) : ∃ n, f n = some r ∧ g n = some s := by
  obtain ⟨a, ha⟩ := h
  obtain ⟨b, hb⟩ := k
  exact ⟨a + b, ha _ (by omega), hb _ (by omega)⟩
/-! What the reference's checks answer. -/
theorem ref_Clash (l : List News) (A : Option Addr) (c : Nat) (srcs : Int) (w : World) (hr : NewsRow w A l.length l) (hc : l.length ≤ c) :
    Calls Try.prog 32 #[.slice A l.length c, .int .i64 srcs] w fun e w' => e = .returned (.tuple #[.int .i64 (clashR l srcs).1, .int .i64 (clashR l srcs).2.1, .int .i64 (clashR l srcs).2.2]) ∧ Below w.heap.size w w' := by
  obtain ⟨k, h1, h2⟩ := (plain_f l srcs).both (clash_f l hr.2.1)
  have h3 : afterwordref05_Clash.f k (l.map sNews) srcs = some (clashR l srcs) := by
    unfold afterwordref05_Clash.f clashR
    rw [h1, h2]
    cases plainB l srcs
    · rfl
    · cases hb : (clashOf l).2.2 <;> simp [hb]
  have h := afterwordref05_Clash.calls k A c (l.map sNews) srcs (clashR l srcs).1 (clashR l srcs).2.1 (clashR l srcs).2.2 w (by rw [List.length_map]; exact C_sNews hr) (by rw [List.length_map]; exact hc) h3
  rw [List.length_map] at h
  exact h
theorem ref_Check (l : List News) (A : Option Addr) (c : Nat) (srcs : Int) (w : World) (hr : NewsRow w A l.length l) (hc : l.length ≤ c) :
    Calls Try.prog 34 #[.slice A l.length c, .int .i64 srcs] w fun e w' => e = .returned (.int .i64 (if formedB l srcs then 0 else 2)) ∧ Below w.heap.size w w' := by
  obtain ⟨k, h1, h2⟩ := (plain_f l srcs).both (clash_f l hr.2.1)
  have h3 : afterwordref05_Check.f k (l.map sNews) srcs = some (if formedB l srcs then 0 else 2) := by
    unfold afterwordref05_Check.f afterwordref05_Formed.f formedB
    rw [h1, h2]
    cases plainB l srcs
    · rfl
    · cases hb : (clashOf l).2.2 <;> simp [hb]
  have h := afterwordref05_Check.calls k A c (l.map sNews) srcs _ w (by rw [List.length_map]; exact C_sNews hr) (by rw [List.length_map]; exact hc) h3
  rw [List.length_map] at h
  exact h
theorem ref_Formed (l : List News) (A : Option Addr) (c : Nat) (srcs : Int) (w : World) (hr : NewsRow w A l.length l) (hc : l.length ≤ c) :
    Calls Try.prog 28 #[.slice A l.length c, .int .i64 srcs] w fun e w' => e = .returned (.bool (formedB l srcs)) ∧ Below w.heap.size w w' := by
  obtain ⟨k, h1, h2⟩ := (plain_f l srcs).both (clash_f l hr.2.1)
  have h3 : afterwordref05_Formed.f k (l.map sNews) srcs = some (formedB l srcs) := by
    unfold afterwordref05_Formed.f formedB
    rw [h1, h2]
    cases plainB l srcs
    · rfl
    · cases hb : (clashOf l).2.2 <;> simp [hb]
  have h := afterwordref05_Formed.calls k A c (l.map sNews) srcs _ w (by rw [List.length_map]; exact C_sNews hr) (by rw [List.length_map]; exact hc) h3
  rw [List.length_map] at h
  exact h
theorem Ev.bind {α β : Type} {f : Nat → Option α} {r : α} {g : Nat → α → Option β} {s : β} (h : Ev f r) (k : Ev (fun n => g n r) s) : Ev (fun n => (f n).bind (g n)) s := by
  obtain ⟨a, ha⟩ := h
  obtain ⟨b, hb⟩ := k
  refine ⟨a + b, fun n hn => ?_⟩
  show (f n).bind (g n) = some s
  rw [ha n (by omega)]
  exact hb n (by omega)
theorem Ev.pure {α : Type} (r : α) : Ev (fun _ => some r) r := ⟨0, fun _ _ => rfl⟩
end Go.Proofs.Ytdpkpibcjbllcaa
set_option linter.unusedVariables false
set_option linter.unusedSimpArgs false
/-! What comes in, opened: records, news, lists of news. -/
namespace Go.Proofs.Ytdpkpibcjbllcaa
open Go.RowKit Go.Proofs.YtdpkpibcjbllcaaW.PrintWords Go.ChangeShapes Go.WideShapes Go.Deep

section
variable {H : Type} {enc : TypeId × Value → H} {w : World} {base : Nat} {spare : Nat → Bool} {held : Bool}
theorem cells_int : Try.prog.cellsOf 3 = 1 := by kernel_rfl
theorem cells_do : Try.prog.cellsOf 34 = 1 := by kernel_rfl
theorem cells_rec : Try.prog.cellsOf 36 = 3 := by kernel_rfl
theorem cells_news : Try.prog.cellsOf 38 = 7 := by kernel_rfl
set_option maxRecDepth 100000 in
theorem open_rec {n : Nat} {cs : List Value} {x : DataW H × List MemPlace} (h : DataW.trod enc Try.prog w base spare held n 36 cs = some x) : ∃ r : Rec, cs = [.int .i64 r.at_, .int .i64 r.key, .int .i64 r.val] := by
  obtain ⟨xs, k, _, _, hl, hx, hf⟩ := DataW.trod_struct Try.underlying36 h
  rw [cells_rec] at hl
  match xs, hx, cs, hl with
  | [y0, y1, y2], _, [v0, v1, v2], _ =>
    have g0 := hf 0 _ rfl
    have g1 := hf 1 _ rfl
    have g2 := hf 2 _ rfl
    simp [cells_int] at g0 g1 g2
    obtain ⟨a, ha, _⟩ := DataW.trod_int Try.underlying3 g0
    obtain ⟨b, hb, _⟩ := DataW.trod_int Try.underlying3 g1
    obtain ⟨c, hc, _⟩ := DataW.trod_int Try.underlying3 g2
    refine ⟨⟨a, b, c⟩, ?_⟩
    simp at ha hb hc
    rw [ha, hb, hc]
set_option maxRecDepth 100000 in
theorem open_news {n : Nat} {cs : List Value} {x : DataW H × List MemPlace} (h : DataW.trod enc Try.prog w base spare held n 38 cs = some x) : ∃ r : News, cs = [.int .i64 r.do_, .int .i64 r.src, .int .i64 r.id, .int .i64 r.ver, .int .i64 r.body.at_, .int .i64 r.body.key, .int .i64 r.body.val] := by
  obtain ⟨xs, k, _, _, hl, hx, hf⟩ := DataW.trod_struct Try.underlying38 h
  rw [cells_news] at hl
  match xs, hx, cs, hl with
  | [y0, y1, y2, y3, y4], _, [v0, v1, v2, v3, v4, v5, v6], _ =>
    have g0 := hf 0 _ rfl
    have g1 := hf 1 _ rfl
    have g2 := hf 2 _ rfl
    have g3 := hf 3 _ rfl
    have g4 := hf 4 _ rfl
    simp [cells_int, cells_do, cells_rec] at g0 g1 g2 g3 g4
    obtain ⟨a, ha, _⟩ := DataW.trod_int Try.underlying34 g0
    obtain ⟨b, hb, _⟩ := DataW.trod_int Try.underlying3 g1
    obtain ⟨c, hc, _⟩ := DataW.trod_int Try.underlying3 g2
    obtain ⟨d, hd, _⟩ := DataW.trod_int Try.underlying3 g3
    obtain ⟨r, hr⟩ := open_rec g4
    refine ⟨⟨a, b, c, d, r⟩, ?_⟩
    simp at ha hb hc hd hr
    obtain ⟨h4, h5, h6⟩ := hr
    rw [ha, hb, hc, hd, h4, h5, h6]
set_option maxRecDepth 100000 in
theorem open_newsrow {n : Nat} {cs : List Value} {x : DataW H × List MemPlace} (h : DataW.trod enc Try.prog w base spare held n 22 cs = some x) :
    ∃ A len cap l, cs = [.slice A len cap] ∧ len ≤ cap ∧ l.length = len ∧ NewsRow w A l.length l := by
  rcases open_slice Try.underlying22 h with ⟨rfl, _⟩ | ⟨a, len, cap, m, n, D, Pl, rfl, hb, hlc, hm, hmm, _, hel⟩
  · exact ⟨none, 0, 0, [], rfl, Nat.le_refl _, rfl, Kd.C_nil _ _⟩
  · have hlm : len ≤ m := by rw [hmm]; split <;> omega
    have each : ∀ i, i < len → ∃ r : News, ∀ j u, [.int .i64 r.do_, .int .i64 r.src, .int .i64 r.id, .int .i64 r.ver, .int .i64 r.body.at_, .int .i64 r.body.key, .int .i64 r.body.val][j]? = some u → w.cell? (a.add (i * 7 + j)) = some u := by
      intro i hi
      obtain ⟨cs', h1, h2⟩ := hel i (by omega)
      rw [cells_news] at h1
      obtain ⟨_, hlen, hcell⟩ := World.cells?_some h1
      obtain ⟨r, rfl⟩ := open_news h2
      refine ⟨r, fun j u hu => ?_⟩
      have hj : j < 7 := (List.getElem?_eq_some_iff.1 hu).1
      have := hcell j hj
      rw [hu] at this
      rw [← this, Addr.add_add]
    have hch : ∃ f : Nat → News, ∀ i, i < len → ∀ j u, [.int .i64 (f i).do_, .int .i64 (f i).src, .int .i64 (f i).id, .int .i64 (f i).ver, .int .i64 (f i).body.at_, .int .i64 (f i).body.key, .int .i64 (f i).body.val][j]? = some u → w.cell? (a.add (i * 7 + j)) = some u := by
      refine ⟨fun i => if h : i < len then (each i h).choose else ⟨0, 0, 0, 0, ⟨0, 0, 0⟩⟩, fun i hi => ?_⟩
      simp only [dif_pos hi]
      exact (each i hi).choose_spec
    obtain ⟨f, hfc⟩ := hch
    have hll : ((List.range len).map f).length = len := by simp
    refine ⟨some a, len, cap, (List.range len).map f, rfl, hlc, hll, rfl, by rw [hll]; simp only [maxLen] at hm; omega, fun _ => ⟨a, rfl, fun j p hj => ?_⟩⟩
    have hjl : j < len := by rw [← hll]; exact (List.getElem?_eq_some_iff.1 hj).1
    obtain rfl : f j = p := by simpa [hjl] using hj
    exact ⟨_, rfl, kNews_mk w (f j), fun i u hu => hfc j hjl i u hu⟩
end
end Go.Proofs.Ytdpkpibcjbllcaa
set_option linter.unusedVariables false
set_option linter.unusedSimpArgs false
/-! How long a list of news may be; one of the news, opened. -/
namespace Go.Proofs.Ytdpkpibcjbllcaa
open Go.RowKit Go.Proofs.YtdpkpibcjbllcaaW.PrintWords Go.ChangeShapes Go.WideShapes Go.Deep

theorem sized_news {H : Type} {enc : TypeId × Value → H} {W : World} {base : Nat} {spare : Nat → Bool} {held : Bool} {a : Option Addr} {len cap : Nat} {d : DataW H} {ps : List MemPlace} {ts : List TypeId} {ds : List (DataW H)} {j : Nat}
    (hsz : (DataW.weightsEach Try.prog ts ds).all (· ≤ reachBytes) = true) (ht : ts[j]? = some 22) (hd : ds[j]? = some d)
    (h : DataW.Trod enc Try.prog W base spare held 22 (.slice a len cap) d ps) : len * 56 ≤ 140737488351232 := by
  obtain ⟨fuel, hf⟩ := h
  rcases open_slice Try.underlying22 hf with ⟨hcs, _⟩ | ⟨x, l, c, m, n, D, Pl, hcs, _, hlc, _, hmm, hx, _⟩
  · simp [Value.cells] at hcs
    obtain ⟨rfl, rfl, rfl⟩ := hcs
    simp
  · simp [Value.cells] at hcs
    obtain ⟨rfl, rfl, rfl⟩ := hcs
    obtain ⟨hx, _⟩ := Prod.mk.inj hx
    subst hx
    have z := sized_slice hsz ht hd Try.underlying22
    have hB : Try.prog.bytesOf 38 = 56 := by kernel_rfl
    rw [hB] at z
    simp only [List.length_map, List.length_range] at z
    refine Nat.le_trans (Nat.mul_le_mul_right _ ?_) z
    omega

set_option maxRecDepth 100000 in
theorem open_newsval {H : Type} {enc : TypeId × Value → H} {W : World} {base : Nat} {spare : Nat → Bool} {held : Bool} {r : Reach} {b0 : Nat} {v : Value} {d : DataW H} {p : List MemPlace} (hv : Value.okWide Try.prog W r b0 38 v) (h : DataW.Trod enc Try.prog W base spare held 38 v d p) : ∃ n : News, v = .agg #[.int .i64 n.do_, .int .i64 n.src, .int .i64 n.id, .int .i64 n.ver, .int .i64 n.body.at_, .int .i64 n.body.key, .int .i64 n.body.val] := by
  obtain ⟨cs, rfl, hsz⟩ := okWide_struct Try.underlying38 hv
  obtain ⟨fuel, hf⟩ := h
  obtain ⟨n, hn⟩ := open_news hf
  refine ⟨n, ?_⟩
  have e : cs.toList = [.int .i64 n.do_, .int .i64 n.src, .int .i64 n.id, .int .i64 n.ver, .int .i64 n.body.at_, .int .i64 n.body.key, .int .i64 n.body.val] := by simpa [Value.cells] using hn
  congr 1
  apply Array.toList_inj.1
  rw [e]
end Go.Proofs.Ytdpkpibcjbllcaa
