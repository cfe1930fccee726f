/-
  Texts of one hand, laid together: Types, Region, Kit, HistA, Maps, HistB, Mem, HistC, HistD.
-/
import Derived.StillTail
import Derived.Deep.Quiet
import Derived.Test.YtfmojgdomficlaaProg
import Derived.Test.YtfmojgdomficlaaWEqStruct
import Derived.WalkSpells
import Derived.WalkLawsBesides
import Derived.Deep.QuietTactic
import Derived.BigQuiet
import Derived.Lib.Hide
import Derived.StillTailTactics
import Derived.Deep.RegionWith
import Derived.RegionCalls
import Derived.Deep.LoopGhost
import Derived.Deep.DeepCutAuto
import Derived.MapKept
import Derived.Deep.RegionHeld3
/-! The values of the program as Lean's own structures, and the plain meaning of what the reference says of them. No program in sight. -/
namespace Go.Proofs.Ytfmojgdomficlaa
/-- api.Rec -/
structure Rec where
  at_ : Int
  key : Int
  val : Int
deriving DecidableEq, Inhabited
/-- api.News -/
structure News where
  do_ : Int
  src : Int
  id : Int
  ver : Int
  body : Rec
deriving DecidableEq, Inhabited
/-- api.Event -/
structure Event where
  src : Int
  id : Int
  body : Rec
deriving DecidableEq, Inhabited
/-- hist.key -/
structure Key where
  src : Int
  id : Int
deriving DecidableEq, Inhabited
/-- '==' of structs, each behind a name of its own (the walk's simp does not look into it). -/
def recEq (a b : Rec) : Bool := decide (a = b)
def newsEq (a b : News) : Bool := decide (a = b)
def eventEq (a b : Event) : Bool := decide (a = b)
def keyEq (a b : Key) : Bool := decide (a = b)
/-- 'low <= n && n <= high'. -/
def inB (n low high : Int) : Bool := decide (low ≤ n) && decide (n ≤ high)
/-- A record is formed. -/
def recB (r : Rec) : Bool := inB r.at_ 0 200 && (inB r.key (-1000000000) 1000000000 && inB r.val (-1000000000) 1000000000)
def saidB (n : News) : Bool := inB n.id 0 999 && (inB n.ver 1 99 && recB n.body)
def goneB (n : News) : Bool := saidB n && recEq n.body ⟨0, 0, 0⟩
def markedB (n : News) : Bool := (n.id == 0) && ((n.ver == 0) && (recEq n.body ⟨n.body.at_, 0, 0⟩ && inB n.body.at_ 0 201))
/-- One of the news is formed by itself. -/
def goodB (n : News) (srcs : Int) : Bool :=
  inB n.src 0 (srcs - 1) && (if n.do_ = 1 then saidB n else if n.do_ = 2 then goneB n else if n.do_ = 3 then markedB n else false)
/-- News are formed each by itself, and not too many. -/
def plainB (l : List News) (srcs : Int) : Bool := inB srcs 1 4 && (decide (l.length ≤ 60) && !(l.any fun n => !goodB n srcs))
/-- Two news clash. -/
def clashB (m n : News) : Bool := !(m.do_ == 3) && (!(n.do_ == 3) && (m.src == n.src && (m.id == n.id && (m.ver == n.ver && !newsEq m n))))
/-- The first of a list, from a number on, that clashes with n. -/
def clashIn (n : News) : List News → Nat → Option Nat
  | [], _ => none
  | m :: l, i => if clashB m n = true then some i else clashIn n l (i + 1)
/-- The first two of a list that clash: 'pre' is what has been seen. -/
def clashFrom (pre : List News) : List News → Option (Nat × Nat)
  | [] => none
  | n :: l => match clashIn n pre 0 with
    | some i => some (i, pre.length)
    | none => clashFrom (pre ++ [n]) l
def clashOf (l : List News) : Int × Int × Bool := match clashFrom [] l with
  | some (i, k) => (i, k, true)
  | none => (0, 0, false)
/-- A list of news is formed. -/
def formedB (l : List News) (srcs : Int) : Bool := plainB l srcs && !(clashOf l).2.2
end Go.Proofs.Ytfmojgdomficlaa
set_option linter.unusedVariables false
/-! A region that draws its order: a head that only reads (or calls quietly, staying in a class of worlds), then a tail in one forced order that may write. -/
namespace Go.Proofs.Ytfmojgdomficlaa
open Go
section
variable {P : Program} {ops : Array Oper} {md : Region.Mode} {C : World → Prop}

def wpAnyLQ (P : Program) (md : Region.Mode) (ops : Array Oper) (C : World → Prop) (n : Nat) (L : Array Bool → Act → Prop) : Nat → Array Bool → Act → Prop
  | 0, listed, a => L listed a
  | f + 1, listed, a =>
    Region.ready md ops listed ≠ [] ∧ ∀ i ∈ Region.ready md ops listed, i < n ∧ qOp P ops C i (wpAnyLQ P md ops C n L f (listed.setIfInBounds i true)) a

theorem wpAny_of_headQ {n g : Nat} {L : Array Bool → Act → Prop} {Q' : Exit → Act → World → Prop} (hL : ∀ listed a, L listed a → ∀ w, C w → wpAny P md ops Q' g listed a w) :
    ∀ (f : Nat) (listed : Array Bool) (a : Act) (w : World), C w → wpAnyLQ P md ops C n L f listed a → wpAny P md ops Q' (f + g) listed a w
  | 0, listed, a, w, hw, h => by rw [Nat.zero_add]; exact hL _ _ h w hw
  | f + 1, listed, a, w, hw, h => by
    rw [show f + 1 + g = (f + g) + 1 by omega]
    exact ⟨fun h0 => absurd h0 h.1, fun i hi => wpOp_of_qOp hw (fun a' w' hw' h' => wpAny_of_headQ hL f _ a' w' hw' h') (h.2 i hi).2⟩

theorem wpAnyLQ_first {n i : Nat} {oi : Oper} {v : Value} {L : Array Bool → Act → Prop} (hi : ops[i]? = some oi) (hsel : ∀ (j : Nat) (o : Oper) cs b, ops[j]? = some o → o.op ≠ .select cs b)
    (hs : Region.sinkB md ops n = true) (hc : Region.chainB md ops n = true) (hn : n < ops.size) (hin : i < n)
    (hdone : ∀ listed a, L listed a → ∀ j ∈ Region.ready md ops listed, n ≤ j) :
    ∀ (f : Nat) (listed : Array Bool) (a : Act), HeadInv md ops n listed →
      (∀ j oj, ops[j]? = some oj → j ≠ i → listed.getD j true = false → (∀ e ∈ oj.after, Region.binds md e = true → e.on ≠ i) → oi.apart ops oj = true) →
      i ∈ Region.ready md ops listed → YieldsIn P ops C oi v a →
      wpAnyLQ P md ops C n L f (listed.setIfInBounds i true) (a.put oi.dst v) → wpAnyLQ P md ops C n L (f + 1) listed a := by
  intro f
  induction f with
  | zero =>
    intro listed a inv _ hr hy H
    have hun := (mem_ready.1 hr).1
    refine ⟨fun h => (by rw [h] at hr; cases hr), fun j hj => ?_⟩
    have hjn : j < n := by
      rcases Nat.lt_or_ge j n with h | h
      · exact h
      · exact absurd hj (tail_waits hs hc hn inv _ i rfl hin hun j h)
    refine ⟨hjn, ?_⟩
    by_cases hji : j = i
    · subst hji; exact hy.qOp hi H
    · have := hdone _ _ H j (ready_mono hj hji)
      omega
  | succ f ih =>
    intro listed a inv hfree hr hy H
    have hun := (mem_ready.1 hr).1
    refine ⟨fun h => (by rw [h] at hr; cases hr), fun j hj => ?_⟩
    have hjn : j < n := by
      rcases Nat.lt_or_ge j n with h | h
      · exact h
      · exact absurd hj (tail_waits hs hc hn inv _ i rfl hin hun j h)
    refine ⟨hjn, ?_⟩
    by_cases hji : j = i
    · subst hji; exact hy.qOp hi H
    · have h1 := (H.2 j (ready_mono hj hji)).2
      obtain ⟨hjun, oj, hoj, hall⟩ := mem_ready.1 hj
      have hnot : ∀ e ∈ oj.after, Region.binds md e = true → e.on ≠ i := fun e he hb heq => by
        have h1 := hall e he hb
        rw [heq, getD_both hun] at h1
        cases h1
      have h2 := qOp_put hoj (hfree j oj hoj hji hjun hnot) (fun cs b => hsel i oi cs b hi) (fun cs b => hsel j oj cs b hoj) hy h1
      have hfree' : ∀ k ok, ops[k]? = some ok → k ≠ i → (listed.setIfInBounds j true).getD k true = false →
          (∀ e ∈ ok.after, Region.binds md e = true → e.on ≠ i) → oi.apart ops ok = true := fun k ok hk hki hun hno => by
        refine hfree k ok hk hki ?_ hno
        by_cases hjk : j = k
        · subst hjk; exact hjun
        · rw [getD_set_ne true hjk] at hun; exact hun
      refine qOp_mono (fun a' h3 => ih (listed.setIfInBounds j true) a' (inv.set hj hjn) hfree' (ready_mono hr (Ne.symm hji)) h3.1 ?_) h2
      rw [Array.setIfInBounds_comm _ _ hji]
      exact h3.2

theorem wpAnyLQ_lex {n g : Nat} {Lq : Act → Prop} (hsel : Region.noSelect ops = true) (hs : Region.sinkB md ops n = true) (hc : Region.chainB md ops n = true) (hn : n < ops.size) :
    ∀ (l : List Oper) (k : Nat) (listed : Array Bool) (a : Act), (∀ j, j < l.length → l[j]? = ops[k + j]?) → k + l.length = n → HeadInv md ops n listed →
    Region.lexHead md ops g l.length k listed = true → wpQuiet P ops C Lq l a →
    wpAnyLQ P md ops C n (fun listed' a' => Region.seqB md ops g n listed' = true ∧ Lq a') l.length listed a
  | [], k, listed, a, _, hk, _, hB, h => by
    have : k = n := by simpa using hk
    subst this
    exact ⟨by simpa [Region.lexHead] using hB, h⟩
  | o :: l, k, listed, a, hl, hk, inv, hB, h => by
    have h0 : ops[k]? = some o := by simpa using (hl 0 (by simp)).symm
    simp only [List.length_cons, Region.lexHead, Bool.and_eq_true] at hB
    obtain ⟨⟨hr, hf⟩, hB'⟩ := hB
    have hkn : k < n := by simp only [List.length_cons] at hk; omega
    have hr' : k ∈ Region.ready md ops listed := by simpa using hr
    have hst : qOp P ops C k (wpQuiet P ops C Lq l) a := by unfold qOp; simp only [h0]; exact h
    obtain ⟨v, hy, hK⟩ := yieldsIn_of_qOp h0 hst
    exact wpAnyLQ_first h0 (Region.noSelect_spec hsel) hs hc hn hkn (fun listed' a' hL => seqB_ready hL.1) l.length listed a inv (Region.free_spec h0 hf) hr' hy
      (wpAnyLQ_lex hsel hs hc hn l (k + 1) _ _ (fun j hj => by have := hl (j + 1) (by simp; omega); simpa [Nat.add_assoc, Nat.add_comm 1 j] using this) (by simp only [List.length_cons] at hk; omega) (inv.set hr' hkn) hB' hK)

/-- A quiet head of n operations in the class C, then the rest in the text's order from every world of the class. -/
theorem wp_region_quiet_tail {id : Nat} {Q : Exit → Act → World → Prop} {a : Act} {w : World} {l : List Oper} (n : Nat) (C : World → Prop) (hm : P.follows .mixedOrders = true) (hB : Region.lexTailB .any l.toArray n = true) (hC : C w.drew)
    (h : wpQuiet P l.toArray C (fun a' => ∀ w', C w' → wpList P l.toArray Q (l.drop n) a' w') (l.take n) a) : (Code.region id l.toArray true).wp P Q a w := by
  simp only [Region.lexTailB, Bool.and_eq_true, decide_eq_true_eq] at hB
  obtain ⟨⟨⟨⟨hsel, hn⟩, hs⟩, hc⟩, hlex⟩ := hB
  have hn' : n < l.length := by simpa using hn
  have htl : (l.take n).length = n := by simp; omega
  have hdl : (l.drop n).length = l.toArray.size - n := by simp
  have inv0 : HeadInv .any l.toArray n (Array.replicate l.toArray.size false) :=
    ⟨by simp, fun j oj _ hl => (by rw [getD_replicate_false] at hl; cases hl), fun t _ ht => getD_in (by simpa using ht) (getD_replicate_false _ _)⟩
  have H := wpAnyLQ_lex (md := .any) (C := C) (g := l.toArray.size - n) hsel hs hc hn (l.take n) 0 _ a (fun j hj => by
    have hj' : j < n := by rw [htl] at hj; exact hj
    simp [hj']) (by simpa using htl) inv0 (by rw [htl]; exact hlex) h
  refine wp_region_any hm ?_
  have := wpAny_of_headQ (Q' := Q) (g := l.toArray.size - n) (fun listed a' hL w' hw' => by
    have := wpAny_of_seq (md := .any) (Q' := Q) (l.drop n) n listed a' w' (fun j => by simp [List.getElem?_drop]) (by rw [hdl]; exact hL.1) (hL.2 w' hw')
    rwa [hdl] at this) _ _ _ _ hC H
  rw [htl, show n + (l.toArray.size - n) = l.toArray.size by omega] at this
  exact this
end
end Go.Proofs.Ytfmojgdomficlaa
set_option linter.unusedVariables false
set_option linter.unusedSimpArgs false
/-! Small laws that the walks of this seat use. -/
namespace Go.Proofs.Ytfmojgdomficlaa
open Go.RowKit Go.Proofs.YtfmojgdomficlaaW.PrintWords

theorem bcell {W w1 : World} (hb : Below W.heap.size W w1) : (∀ b o, b < W.heap.size → w1.cell? ⟨b, o, none⟩ = W.cell? ⟨b, o, none⟩) ∧ (∀ b o, b < W.heap.size → w1.frozen? ⟨b, o, none⟩ = W.frozen? ⟨b, o, none⟩) :=
  ⟨fun b o h => hb.cell (p := ⟨b, o, none⟩) h, fun b o h => hb.frozen (p := ⟨b, o, none⟩) h⟩

theorem eqRec (d : Nat) (w : World) (x0 y0 : Int) (x1 y1 : Int) (x2 y2 : Int) :
    (Op.equalIn (d + 2) 24 (.agg #[.int .i64 x0, .int .i64 x1, .int .i64 x2]) (.agg #[.int .i64 y0, .int .i64 y1, .int .i64 y2])).run Try.prog w = .ok (recEq ⟨x0, x1, x2⟩ ⟨y0, y1, y2⟩) w := by
  have e : recEq ⟨x0, x1, x2⟩ ⟨y0, y1, y2⟩ = (x0 == y0 && (x1 == y1 && (x2 == y2))) := by unfold recEq; rw [Bool.eq_iff_iff]; simp
  rw [e]; clear e
  refine eqA_of Try.underlying24 (by kernel_rfl) ?_
  refine eqf_cons (by rfl) (by go_simp; rfl) (by go_simp; rfl) (by go_simp) ?_
  refine eqf_cons (by rfl) (by go_simp; rfl) (by go_simp; rfl) (by go_simp) ?_
  exact eqf_last (by rfl) (by go_simp; rfl) (by go_simp; rfl) (by go_simp)
theorem eqNews (d : Nat) (w : World) (x0 y0 : Int) (x1 y1 : Int) (x2 y2 : Int) (x3 y3 : Int) (x4 y4 : Int) (x5 y5 : Int) (x6 y6 : Int) :
    (Op.equalIn (d + 3) 26 (.agg #[.int .i64 x0, .int .i64 x1, .int .i64 x2, .int .i64 x3, .int .i64 x4, .int .i64 x5, .int .i64 x6]) (.agg #[.int .i64 y0, .int .i64 y1, .int .i64 y2, .int .i64 y3, .int .i64 y4, .int .i64 y5, .int .i64 y6])).run Try.prog w = .ok (newsEq ⟨x0, x1, x2, x3, ⟨x4, x5, x6⟩⟩ ⟨y0, y1, y2, y3, ⟨y4, y5, y6⟩⟩) w := by
  have e : newsEq ⟨x0, x1, x2, x3, ⟨x4, x5, x6⟩⟩ ⟨y0, y1, y2, y3, ⟨y4, y5, y6⟩⟩ = (x0 == y0 && (x1 == y1 && (x2 == y2 && (x3 == y3 && (recEq ⟨x4, x5, x6⟩ ⟨y4, y5, y6⟩))))) := by unfold newsEq; rw [Bool.eq_iff_iff]; simp [recEq]
  rw [e]; clear e
  refine eqA_of Try.underlying26 (by kernel_rfl) ?_
  refine eqf_cons (by rfl) (by go_simp; rfl) (by go_simp; rfl) (by go_simp) ?_
  refine eqf_cons (by rfl) (by go_simp; rfl) (by go_simp; rfl) (by go_simp) ?_
  refine eqf_cons (by rfl) (by go_simp; rfl) (by go_simp; rfl) (by go_simp) ?_
  refine eqf_cons (by rfl) (by go_simp; rfl) (by go_simp; rfl) (by go_simp) ?_
  exact eqf_last (by rfl) (by go_simp) (by go_simp) (eqRec (d + 0) w _ _ _ _ _ _)
theorem eqKey (d : Nat) (w : World) (x0 y0 : Int) (x1 y1 : Int) :
    (Op.equalIn (d + 2) 143 (.agg #[.int .i64 x0, .int .i64 x1]) (.agg #[.int .i64 y0, .int .i64 y1])).run Try.prog w = .ok (keyEq ⟨x0, x1⟩ ⟨y0, y1⟩) w := by
  have e : keyEq ⟨x0, x1⟩ ⟨y0, y1⟩ = (x0 == y0 && (x1 == y1)) := by unfold keyEq; rw [Bool.eq_iff_iff]; simp
  rw [e]; clear e
  refine eqA_of Try.underlying143 (by kernel_rfl) ?_
  refine eqf_cons (by rfl) (by go_simp; rfl) (by go_simp; rfl) (by go_simp) ?_
  exact eqf_last (by rfl) (by go_simp; rfl) (by go_simp; rfl) (by go_simp)
theorem eqEvent (d : Nat) (w : World) (x0 y0 : Int) (x1 y1 : Int) (x2 y2 : Int) (x3 y3 : Int) (x4 y4 : Int) :
    (Op.equalIn (d + 3) 116 (.agg #[.int .i64 x0, .int .i64 x1, .int .i64 x2, .int .i64 x3, .int .i64 x4]) (.agg #[.int .i64 y0, .int .i64 y1, .int .i64 y2, .int .i64 y3, .int .i64 y4])).run Try.prog w = .ok (eventEq ⟨x0, x1, ⟨x2, x3, x4⟩⟩ ⟨y0, y1, ⟨y2, y3, y4⟩⟩) w := by
  have e : eventEq ⟨x0, x1, ⟨x2, x3, x4⟩⟩ ⟨y0, y1, ⟨y2, y3, y4⟩⟩ = (x0 == y0 && (x1 == y1 && (recEq ⟨x2, x3, x4⟩ ⟨y2, y3, y4⟩))) := by unfold eventEq; rw [Bool.eq_iff_iff]; simp [recEq]
  rw [e]; clear e
  refine eqA_of Try.underlying116 (by kernel_rfl) ?_
  refine eqf_cons (by rfl) (by go_simp; rfl) (by go_simp; rfl) (by go_simp) ?_
  refine eqf_cons (by rfl) (by go_simp; rfl) (by go_simp; rfl) (by go_simp) ?_
  exact eqf_last (by rfl) (by go_simp) (by go_simp) (eqRec (d + 0) w _ _ _ _ _ _)
attribute [go_sem high] eqRec eqNews eqKey eqEvent
/-- A region that draws its order, walked in the text's order: every operation yields one value in every world of the class C, and stays in it. -/
theorem wp_region_in {P : Program} {id : Nat} {ops : Array Oper} {Q : Exit → Act → World → Prop} {a : Act} {w : World} (C : World → Prop) (hm : P.follows .mixedOrders = true) (hB : Region.lexB .any ops = true)
    (hC : C w.drew) (h : wpQuiet P ops C (fun a' => ∀ w', C w' → Q .normal a' w') ops.toList a) : (Code.region id ops true).wp P Q a w :=
  wp_region_quiet (C := C) hm hB hC h
theorem heap_alloc_lt {b : Nat} (w : World) (o : Obj) (h : b < w.heap.size) : (w.alloc o).heap[b]? = w.heap[b]? := by
  unfold World.alloc
  simp only
  rw [Array.getElem?_push_lt h, Array.getElem?_eq_getElem h]
theorem alloc_old {w : World} {b : Nat} {x : Obj} (h : w.heap[b]? = some x) (o : Obj) : (w.alloc o).heap[b]? = some x := by
  have hb : b < w.heap.size := (Array.getElem?_eq_some_iff.1 h).1
  unfold World.alloc
  simp only
  rw [Array.getElem?_push_lt hb]
  rw [Array.getElem?_eq_getElem hb] at h
  exact h
end Go.Proofs.Ytfmojgdomficlaa
set_option linter.unusedVariables false
set_option linter.unusedSimpArgs false
namespace Go.Proofs.Ytfmojgdomficlaa
open Go.RowKit Go.Proofs.YtfmojgdomficlaaW.PrintWords

set_option maxHeartbeats 400000 in
theorem hist_in (n low high : Int) (w : World) :
    Calls Try.prog 103 #[.int .i64 n, .int .i64 low, .int .i64 high] w fun e w' => e = .returned (.bool (inB n low high)) ∧ w = w' := by
  by_cases h1 : low ≤ n
  · by_cases h2 : n ≤ high
    all_goals
      go_enter Try.func103, Try.ntmps103
      go_wp2
      go_ret
      exact ⟨by simp [inB]; omega, rfl⟩
  · go_enter Try.func103, Try.ntmps103
    go_wp2
    go_ret
    exact ⟨by simp [inB]; omega, rfl⟩

set_option maxHeartbeats 400000 in
theorem hist_record (r : Rec) (w : World) :
    Calls Try.prog 113 #[.agg #[.int .i64 r.at_, .int .i64 r.key, .int .i64 r.val]] w fun e w' => e = .returned (.bool (recB r)) ∧ Below w.heap.size w w' := by
  unfold recB
  cases h1 : inB r.at_ 0 200 <;> cases h2 : inB r.key (-1000000000) 1000000000 <;> cases h3 : inB r.val (-1000000000) 1000000000
  all_goals
    go_enter Try.func113, Try.ntmps113
    go_wp2_with (first | (go_at_call 103; refine (hist_in _ _ _ _).mono ?_; rintro e w' ⟨rfl, rfl⟩))
    go_ret
    exact ⟨rfl, (Below.refl _ _).alloc (Nat.le_refl _) _⟩

set_option maxHeartbeats 400000 in
theorem hist_said (n : News) (w : World) :
    Calls Try.prog 109 #[.agg #[], .agg #[.int .i64 n.do_, .int .i64 n.src, .int .i64 n.id, .int .i64 n.ver, .int .i64 n.body.at_, .int .i64 n.body.key, .int .i64 n.body.val]] w fun e w' => e = .returned (.bool (saidB n)) ∧ Below w.heap.size w w' := by
  unfold saidB
  cases h1 : inB n.id 0 999 <;> cases h2 : inB n.ver 1 99 <;> cases h3 : recB n.body
  all_goals
    go_enter Try.func109, Try.ntmps109
    go_wp2_with (first | (go_at_call 103; refine (hist_in _ _ _ _).mono ?_; rintro e w' ⟨rfl, rfl⟩) | (go_at_call 113; refine (hist_record n.body _).mono ?_; rintro e w' ⟨rfl, hb⟩; obtain ⟨hc, hf⟩ := bcell hb))
    go_ret
    exact ⟨(by first | rfl | (simp; done) | (simp [*]; done)), (by repeat (first | exact Below.refl _ _ | assumption | apply below_alloc | apply below_drew1 | apply pw_below_drewN | refine below_step ?_ (by assumption)))⟩

set_option maxHeartbeats 400000 in
theorem hist_gone (n : News) (w : World) :
    Calls Try.prog 110 #[.agg #[], .agg #[.int .i64 n.do_, .int .i64 n.src, .int .i64 n.id, .int .i64 n.ver, .int .i64 n.body.at_, .int .i64 n.body.key, .int .i64 n.body.val]] w fun e w' => e = .returned (.bool (goneB n)) ∧ Below w.heap.size w w' := by
  unfold goneB
  cases h1 : saidB n
  · go_enter Try.func110, Try.ntmps110
    go_wp2_with (first | (go_at_call 109; refine (hist_said n _).mono ?_; rintro e w' ⟨rfl, hb⟩; obtain ⟨hc, hf⟩ := bcell hb))
    go_ret
    exact ⟨(by first | rfl | (simp; done) | (simp [*]; done)), (by repeat (first | exact Below.refl _ _ | assumption | apply below_alloc | apply below_drew1 | apply pw_below_drewN | refine below_step ?_ (by assumption)))⟩
  · go_enter Try.func110, Try.ntmps110
    go_wp2_with (first | (go_at_call 109; refine (hist_said n _).mono ?_; rintro e w' ⟨rfl, hb⟩; obtain ⟨hc, hf⟩ := bcell hb))
    go_ret
    exact ⟨(by first | rfl | (simp; done) | (simp [*]; done)), (by repeat (first | exact Below.refl _ _ | assumption | apply below_alloc | apply below_drew1 | apply pw_below_drewN | refine below_step ?_ (by assumption)))⟩
set_option maxHeartbeats 400000 in
theorem hist_marked (n : News) (w : World) :
    Calls Try.prog 111 #[.agg #[], .agg #[.int .i64 n.do_, .int .i64 n.src, .int .i64 n.id, .int .i64 n.ver, .int .i64 n.body.at_, .int .i64 n.body.key, .int .i64 n.body.val]] w fun e w' => e = .returned (.bool (markedB n)) ∧ Below w.heap.size w w' := by
  unfold markedB
  cases h1 : (n.id == 0) <;> cases h2 : (n.ver == 0) <;> cases h3 : recEq n.body ⟨n.body.at_, 0, 0⟩
  all_goals
    go_enter Try.func111, Try.ntmps111
    go_wp2_with (first | (go_at_call 103; refine (hist_in _ _ _ _).mono ?_; rintro e w' ⟨rfl, rfl⟩))
    go_ret
    exact ⟨(by first | rfl | (simp; done) | (simp [*]; done)), (by repeat (first | exact Below.refl _ _ | assumption | apply below_alloc | apply below_drew1 | apply pw_below_drewN | refine below_step ?_ (by assumption)))⟩

end Go.Proofs.Ytfmojgdomficlaa
set_option linter.unusedVariables false
set_option linter.unusedSimpArgs false
/-! Maps that a call makes, as association lists in the order in which keys came: look-up, store. -/
namespace Go.Proofs.Ytfmojgdomficlaa
open Go.RowKit Go.Instr Go.MapKept

/-- The entries of a map object: keys in the order in which they came. -/
def entsFrom {κ : Type} (enc : κ → Value) : Nat → List (κ × Value) → List MapEntry
  | _, [] => []
  | i, (k, v) :: l => ⟨enc k, v, i⟩ :: entsFrom enc (i + 1) l
def mapObj {κ : Type} (enc : κ → Value) (l : List (κ × Value)) : Obj := .map (entsFrom enc 0 l).toArray l.length
/-- Where a key is, and what it has. -/
def findI {κ : Type} [DecidableEq κ] (k : κ) : List (κ × Value) → Nat → Option (Nat × Value)
  | [], _ => none
  | (a, v) :: l, i => if k = a then some (i, v) else findI k l (i + 1)
def aget {κ ν : Type} [DecidableEq κ] (k : κ) : List (κ × ν) → Option ν
  | [] => none
  | (a, v) :: l => if k = a then some v else aget k l
def aput {κ ν : Type} [DecidableEq κ] (k : κ) (v : ν) : List (κ × ν) → List (κ × ν)
  | [] => [(k, v)]
  | (a, x) :: l => if k = a then (a, v) :: l else (a, x) :: aput k v l
theorem entsFrom_length {κ : Type} (enc : κ → Value) (l : List (κ × Value)) : ∀ i, (entsFrom enc i l).length = l.length := by
  induction l with
  | nil => intro i; rfl
  | cons p l ih => intro i; obtain ⟨k, v⟩ := p; simp [entsFrom, ih]
theorem findI_aget {κ : Type} [DecidableEq κ] (k : κ) (l : List (κ × Value)) : ∀ i, (findI k l i).map (·.2) = aget k l := by
  induction l with
  | nil => intro i; rfl
  | cons p l ih => intro i; obtain ⟨a, v⟩ := p; simp only [findI, aget]; split <;> simp [ih]
theorem aput_length_of_none {κ : Type} [DecidableEq κ] (k : κ) (v : Value) (l : List (κ × Value)) (h : aget k l = none) : aput k v l = l ++ [(k, v)] := by
  induction l with
  | nil => rfl
  | cons p l ih =>
    obtain ⟨a, x⟩ := p
    simp only [aget] at h
    split at h
    · cases h
    · rename_i hne; simp only [aput, if_neg hne, ih h, List.cons_append]
theorem entsFrom_append {κ : Type} (enc : κ → Value) (k : κ) (v : Value) (l : List (κ × Value)) : ∀ i, entsFrom enc i (l ++ [(k, v)]) = entsFrom enc i l ++ [⟨enc k, v, i + l.length⟩] := by
  induction l with
  | nil => intro i; simp [entsFrom]
  | cons p l ih => intro i; obtain ⟨a, x⟩ := p; simp [entsFrom, ih]; omega
theorem entsFrom_put {κ : Type} [DecidableEq κ] (enc : κ → Value) (k : κ) (v : Value) (l : List (κ × Value)) : ∀ i j x, findI k l i = some (j, x) →
    i ≤ j ∧ entsFrom enc i (aput k v l) = (entsFrom enc i l).modify (j - i) (fun e => { e with key := enc k, val := v }) ∧ (aput k v l).length = l.length ∧ ((entsFrom enc i l)[j - i]?).map (·.key) = some (enc k) := by
  induction l with
  | nil => intro i j x h; simp [findI] at h
  | cons p l ih =>
    intro i j x h
    obtain ⟨a, y⟩ := p
    simp only [findI] at h
    split at h
    · rename_i e
      subst e
      simp only [Option.some.injEq, Prod.mk.injEq] at h
      obtain ⟨rfl, rfl⟩ := h
      refine ⟨Nat.le_refl _, ?_, ?_, ?_⟩ <;> simp [aput, entsFrom]
    · rename_i hne
      obtain ⟨h1, h2, h3, h4⟩ := ih _ _ _ h
      have e : j - i = (j - (i + 1)) + 1 := by omega
      refine ⟨by omega, ?_, ?_, ?_⟩
      · simp only [aput, if_neg hne, entsFrom]
        rw [h2, e]
        rfl
      · simp [aput, if_neg hne, h3]
      · rw [e]; simpa [entsFrom] using h4

/-- What a key's type must give: a key is checked, found, and stays. -/
structure KeyT (P : Program) (T : TypeId) {κ : Type} [DecidableEq κ] (enc : κ → Value) : Prop where
  check : ∀ em k w, (checkKey em 10000 T (enc k)).run P w = .ok () w
  find : ∀ (l : List (κ × Value)) (k : κ) (w : World), (findKey T (enc k) (entsFrom enc 0 l)).run P w = .ok (findI k l 0) w
  stays : ∀ k w, (keyThatStays (enc k) (enc k)).run P w = .ok (enc k) w

/-- Keys of the kind int. -/
theorem keyT_int {P : Program} {T : TypeId} (hT : P.underlying T = some (.int .i64)) : KeyT P T (Value.int .i64) where
  check := fun em k w => run_checkKey hT (by simp [IsKey]) em 9999
  find := by
    intro l k w
    have key : ∀ (l : List (Int × Value)) (i : Nat), findNow (.int .i64) (.int .i64 k) (entsFrom (Value.int .i64) i l) i = some (findI k l i) := by
      intro l
      induction l with
      | nil => intro i; rfl
      | cons p l ih =>
        intro i
        obtain ⟨a, v⟩ := p
        simp only [entsFrom, findNow, sameNow, if_true, findI]
        by_cases h : k = a
        · simp [h]
        · have : (k == a) = false := by simpa using h
          simp only [this, if_neg h]
          exact ih (i + 1)
    exact run_findKey hT (key l 0)
  stays := fun k w => by simp [keyThatStays, sameBits]

/-- Keys that are structs. -/
theorem keyT_struct {P : Program} {T : TypeId} {κ : Type} [DecidableEq κ] {enc : κ → Value} {fs : Array Field} (hT : P.underlying T = some (.struct fs))
    (hag : ∀ k, ∃ cs, enc k = .agg cs)
    (hc : ∀ em k w, (checkKey em 10000 T (enc k)).run P w = .ok () w) (he : ∀ a b w, (Op.equal T (enc a) (enc b)).run P w = .ok (decide (a = b)) w) (hs : ∀ k, sameBits 10000 (enc k) (enc k) = true) : KeyT P T enc where
  check := hc
  find := by
    intro l k w
    have key : ∀ (l : List (κ × Value)) (i : Nat), (findAsking T (enc k) (entsFrom enc i l) i).run P w = .ok (findI k l i) w := by
      intro l
      induction l with
      | nil => intro i; rfl
      | cons p l ih =>
        intro i
        obtain ⟨a, v⟩ := p
        simp only [entsFrom, findAsking, Sem.run_bind, he, Result.andThen_ok, findI]
        by_cases h : k = a
        · simp [h]
        · simp only [decide_eq_false h, if_neg h]
          exact ih (i + 1)
    cases l with
    | nil => simp [findKey, run_underlying hT, entsFrom, findNow, findI]
    | cons p l =>
      have hn : findNow (.struct fs) (enc k) (entsFrom enc 0 (p :: l)) 0 = none := by
        obtain ⟨a, v⟩ := p
        obtain ⟨cs, hcs⟩ := hag k
        simp [entsFrom, findNow, sameNow, hcs]
      simp only [findKey, Sem.run_bind, run_underlying hT, Result.andThen_ok, hn]
      exact key (p :: l) 0
  stays := fun k w => by simp [keyThatStays, hs]

section
variable {P : Program} {T KT ET : TypeId} {κ : Type} [DecidableEq κ] {enc : κ → Value}

theorem run_lookup_map (hk : KeyT P KT enc) (hT : P.underlying T = some (.map KT ET)) {z : Value} (hz : ∀ w, (zeroValue ET).run P w = .ok z w) (l : List (κ × Value)) (b : Nat) (k : κ) (ok : Bool) (w : World) (hb : w.heap[b]? = some (mapObj enc l)) :
    (lookup T (.map (some b)) (enc k) ok).run P w = .ok (if ok then .tuple #[(aget k l).getD z, .bool (aget k l).isSome] else (aget k l).getD z) w := by
  have hg : (getObj b).run P w = .ok (mapObj enc l) w := by simp [getObj, Sem.run, hb, mapObj]
  have ha := findI_aget k l 0
  have h1 := hk.find l k w
  simp only [lookup, Sem.run_bind, run_underlying hT, Result.andThen_ok, hg, mapObj, Sem.run_pure, hk.check, h1]
  rw [← ha]
  rcases hfi : findI k l 0 with _ | ⟨i, v⟩
  · simp [hz, Result.andThen]
  · simp [Result.andThen]

theorem run_mapUpdate_map (hk : KeyT P KT enc) (hT : P.underlying T = some (.map KT ET)) (l : List (κ × Value)) (b : Nat) (k : κ) (v : Value) (w : World) (hb : w.heap[b]? = some (mapObj enc l)) :
    (mapUpdate T (.map (some b)) (enc k) v).run P w = .ok () { w with heap := w.heap.setIfInBounds b (mapObj enc (aput k v l)) } := by
  have hg : (getObj b).run P w = .ok (mapObj enc l) w := by simp [getObj, Sem.run, hb, mapObj]
  have ha := findI_aget k l 0
  have h1 := hk.find l k w
  simp only [mapUpdate, Sem.run_bind, run_underlying hT, Result.andThen_ok, hg, mapObj, hk.check, h1]
  rcases hfi : findI k l 0 with _ | ⟨i, x⟩
  · rw [hfi] at ha
    have he := aput_length_of_none k v l (by simpa using ha.symm)
    simp only [run_setObj_map _ hb]
    rw [he, entsFrom_append]
    simp
  · obtain ⟨_, h2, h3, h4⟩ := entsFrom_put enc k v l 0 i x hfi
    simp only [Nat.sub_zero] at h2 h4
    have h5 : (((entsFrom enc 0 l).toArray[i]?).map (·.key)).getD (enc k) = enc k := by
      have : (entsFrom enc 0 l).toArray[i]? = (entsFrom enc 0 l)[i]? := by simp
      rw [this, h4]; rfl
    simp only [Sem.run_bind, h5, hk.stays, Result.andThen_ok, run_setObj_map _ hb, h3, h2]
    simp
end
/-- The world behind a store into a map. -/
def putMap (w : World) (b : Nat) (o : Obj) : World := { w with heap := w.heap.setIfInBounds b o }
@[go_sem] theorem putMap_size (w : World) (b : Nat) (o : Obj) : (putMap w b o).heap.size = w.heap.size := by simp [putMap]
theorem putMap_at {w : World} {b : Nat} {o' : Obj} (h : w.heap[b]? = some o') (o : Obj) : (putMap w b o).heap[b]? = some o := by
  have hb : b < w.heap.size := (Array.getElem?_eq_some_iff.1 h).1
  simp [putMap, hb]
theorem putMap_here {w : World} {b : Nat} (h : b < w.heap.size) (o : Obj) : (putMap w b o).heap[b]? = some o := by simp [putMap, h]
theorem putMap_ne (w : World) {b i : Nat} (h : i ≠ b) (o : Obj) : (putMap w b o).heap[i]? = w.heap[i]? := by
  simp [putMap, Array.getElem?_setIfInBounds_ne (Ne.symm h)]
theorem putMap_cell {κ : Type} {enc : κ → Value} {w : World} {b : Nat} {l : List (κ × Value)} (h : w.heap[b]? = some (mapObj enc l)) (l' : List (κ × Value)) (a : Addr) : (putMap w b (mapObj enc l')).cell? a = w.cell? a := by
  by_cases e : a.block = b
  · subst e; simp only [World.cell?, putMap_at h, h, mapObj]
  · simp only [World.cell?, putMap_ne w e]
theorem putMap_frozen {κ : Type} {enc : κ → Value} {w : World} {b : Nat} {l : List (κ × Value)} (h : w.heap[b]? = some (mapObj enc l)) (l' : List (κ × Value)) (a : Addr) : (putMap w b (mapObj enc l')).frozen? a = w.frozen? a := by
  by_cases e : a.block = b
  · subst e; simp only [World.frozen?, putMap_at h, h, mapObj]
  · simp only [World.frozen?, putMap_ne w e]
theorem below_putMap {B : Nat} {w W : World} (h : Below B w W) {b : Nat} (hb : B ≤ b) (o : Obj) : Below B w (putMap W b o) :=
  ⟨h.os, h.tape, h.output, by rw [putMap_size]; exact h.size, fun k hk => by rw [putMap_ne W (by omega)]; exact h.block k hk⟩

section
variable {P : Program} {ops : Array Oper} {rest : List Oper} {o : Oper} {a : Act} {Q : Exit → Act → World → Prop} {T KT ET : TypeId} {κ : Type} [DecidableEq κ] {enc : κ → Value}
/-- Guards: the next operation is a store into a map, a look-up. -/
theorem at_ins {m x v : Operand} (hop : o.op = Op.insert T m x v) {w : World} (h : wpList P ops Q (o :: rest) a w) : wpList P ops Q (o :: rest) a w := h
theorem at_upd {m x v : Operand} (hop : o.op = Op.mapUpdate T m x v) {w : World} (h : wpList P ops Q (o :: rest) a w) : wpList P ops Q (o :: rest) a w := h
theorem at_lku {m x : Operand} {ok : Bool} (hop : o.op = Op.lookup T m x ok) {w : World} (h : wpList P ops Q (o :: rest) a w) : wpList P ops Q (o :: rest) a w := h
theorem wpList_insert_map (hk : KeyT P KT enc) (hT : P.underlying T = some (.map KT ET)) (w : World) (hg : o.guard = none) (m x v : Operand) (hop : o.op = Op.insert T m x v)
    (b : Nat) (hm : a.eval m = .map (some b)) (k : κ) (hx : a.eval x = enc k) (y : Value) (hv : a.eval v = y) (l : List (κ × Value)) (hb : w.heap[b]? = some (mapObj enc l))
    (hK : wpList P ops Q rest (a.put o.dst undef) (putMap w b (mapObj enc (aput k y l)))) : wpList P ops Q (o :: rest) a w := by
  refine wpList_plain hg fun K' hK' => ?_
  have h := run_mapUpdate_map hk hT l b k y w hb
  unfold Oper.wp
  simp only [execOp, hop, hm, hx, hv, Sem.run_bind, h, Result.andThen_ok, Sem.run_pure]
  exact hK' _ _ hK
theorem wpList_update_map (hk : KeyT P KT enc) (hT : P.underlying T = some (.map KT ET)) (w : World) (hg : o.guard = none) (m x v : Operand) (hop : o.op = Op.mapUpdate T m x v)
    (b : Nat) (hm : a.eval m = .map (some b)) (k : κ) (hx : a.eval x = enc k) (y : Value) (hv : a.eval v = y) (l : List (κ × Value)) (hb : w.heap[b]? = some (mapObj enc l))
    (hK : wpList P ops Q rest (a.put o.dst undef) (putMap w b (mapObj enc (aput k y l)))) : wpList P ops Q (o :: rest) a w := by
  refine wpList_plain hg fun K' hK' => ?_
  have h := run_mapUpdate_map hk hT l b k y w hb
  unfold Oper.wp
  simp only [execOp, hop, hm, hx, hv, Sem.run_bind, h, Result.andThen_ok, Sem.run_pure]
  exact hK' _ _ hK
theorem wpList_lookup_map (hk : KeyT P KT enc) (hT : P.underlying T = some (.map KT ET)) {z : Value} (hz : ∀ w, (zeroValue ET).run P w = .ok z w) (w : World) (hg : o.guard = none) (m x : Operand) (ok : Bool) (hop : o.op = Op.lookup T m x ok)
    (b : Nat) (hm : a.eval m = .map (some b)) (k : κ) (hx : a.eval x = enc k) (l : List (κ × Value)) (hb : w.heap[b]? = some (mapObj enc l)) (r : Option Value) (hr : aget k l = r)
    (hK : wpList P ops Q rest (a.put o.dst (if ok then .tuple #[r.getD z, .bool r.isSome] else r.getD z)) w) : wpList P ops Q (o :: rest) a w := by
  subst hr
  refine wpList_plain hg fun K' hK' => ?_
  have h := run_lookup_map hk hT hz l b k ok w hb
  unfold Oper.wp
  simp only [execOp, hop, hm, hx, Sem.run_bind, h, Result.andThen_ok, Sem.run_pure]
  exact hK' _ _ hK
end
/-- As run equations, for a walk's context. -/
theorem run_lookup_is {P : Program} {T KT ET : TypeId} {κ : Type} [DecidableEq κ] {enc : κ → Value} (hk : KeyT P KT enc) (hT : P.underlying T = some (.map KT ET)) {z : Value} (hz : ∀ w, (zeroValue ET).run P w = .ok z w) {l : List (κ × Value)} {b : Nat} {k : κ} {r : Option Value} (hr : aget k l = r) {w : World} (hb : w.heap[b]? = some (mapObj enc l)) :
    (lookup T (.map (some b)) (enc k) true).run P w = .ok (.tuple #[r.getD z, .bool r.isSome]) w := by
  subst hr
  exact run_lookup_map hk hT hz l b k true w hb
theorem run_store_is {P : Program} {T KT ET : TypeId} {κ : Type} [DecidableEq κ] {enc : κ → Value} (hk : KeyT P KT enc) (hT : P.underlying T = some (.map KT ET)) {l : List (κ × Value)} {b : Nat} {k : κ} {v : Value} {w : World} (hb : w.heap[b]? = some (mapObj enc l)) :
    (mapUpdate T (.map (some b)) (enc k) v).run P w = .ok () (putMap w b (mapObj enc (aput k v l))) := run_mapUpdate_map hk hT l b k v w hb
end Go.Proofs.Ytfmojgdomficlaa
set_option linter.unusedVariables false
set_option linter.unusedSimpArgs false
namespace Go.Proofs.Ytfmojgdomficlaa
open Go.RowKit Go.Proofs.YtfmojgdomficlaaW.PrintWords

theorem kindLaw : KeyT Try.prog 22 (Value.int .i64) := keyT_int Try.underlying22
/-- What stands in the map of the checks. -/
def chk : List (Int × Value) := [(1, .func (.func 109) #[.agg #[]] #[]), (2, .func (.func 110) #[.agg #[]] #[]), (3, .func (.func 111) #[.agg #[]] #[])]

set_option maxRecDepth 100000 in
set_option maxHeartbeats 400000 in
theorem hist_checks (w : World) :
    Calls Try.prog 102 #[] w fun e w' => ∃ b, e = .returned (.map (some b)) ∧ w.heap.size ≤ b ∧ w'.heap[b]? = some (mapObj (Value.int .i64) chk) ∧ Below w.heap.size w w' := by
  have hmm : ∀ w : World, (Instr.makeMap 138 none).run Try.prog w = .ok (.map (some w.heap.size)) (w.alloc (.map #[] 0)) := fun w => by kernel_rfl
  have hmf : ∀ (fn : Fn) (first cap : Array Value) (w : World), (Instr.makeFunc fn first cap).run Try.prog w = .ok (.func fn first cap) w := fun _ _ _ _ => rfl
  go_enter Try.func102, Try.ntmps102
  go_wp2_with (first | ((with_reducible refine at_ins rfl ?_); (refine wpList_insert_map kindLaw Try.underlying138 _ rfl _ _ _ rfl _ rfl 1 rfl _ rfl [] (by have h := heap_alloc_new (w.alloc (.cells #[] 145)) (.map #[] 0); rw [World.size_alloc] at h; exact h) ?_)) | ((with_reducible refine at_ins rfl ?_); refine wpList_insert_map kindLaw Try.underlying138 _ rfl _ _ _ rfl _ rfl _ rfl _ rfl _ (putMap_here (by simp [putMap_size]) _) ?_))
  go_ret
  exact ⟨_, rfl, Nat.le_succ _, putMap_here (by simp [putMap_size]) _, below_putMap (below_putMap (below_putMap (below_alloc (below_alloc (Below.refl _ _) _) _) (Nat.le_succ _) _) (Nat.le_succ _) _) (Nat.le_succ _) _⟩

theorem goodB_say {n : News} {srcs : Int} (h : n.do_ = 1) : goodB n srcs = (inB n.src 0 (srcs - 1) && saidB n) := by simp [goodB, h]
theorem goodB_gone {n : News} {srcs : Int} (h : n.do_ = 2) : goodB n srcs = (inB n.src 0 (srcs - 1) && goneB n) := by simp [goodB, h]
theorem goodB_mark {n : News} {srcs : Int} (h : n.do_ = 3) : goodB n srcs = (inB n.src 0 (srcs - 1) && markedB n) := by simp [goodB, h]
theorem goodB_none {n : News} {srcs : Int} (h : n.do_ ≠ 1) (h2 : n.do_ ≠ 2) (h3 : n.do_ ≠ 3) : goodB n srcs = false := by simp [goodB, h, h2, h3]

set_option maxRecDepth 100000 in
set_option maxHeartbeats 400000 in
/-- The closure of 'plain': is one of the news NOT formed by itself? -/
theorem hist_plain1 (n : News) (pf ps : Nat) (b : Nat) (srcs : Int) (w : World) (hs1 : 1 ≤ srcs) (hs4 : srcs ≤ 4) (hpf : w.cell? ⟨pf, 0, none⟩ = some (.map (some b))) (hb : w.heap[b]? = some (mapObj (Value.int .i64) chk)) (hps : w.cell? ⟨ps, 0, none⟩ = some (.int .i64 srcs)) :
    Calls Try.prog 105 #[.agg #[.int .i64 n.do_, .int .i64 n.src, .int .i64 n.id, .int .i64 n.ver, .int .i64 n.body.at_, .int .i64 n.body.key, .int .i64 n.body.val], .pointer (some ⟨pf, 0, none⟩), .pointer (some ⟨ps, 0, none⟩)] w fun e w' => e = .returned (.bool (!goodB n srcs)) ∧ Below w.heap.size w w' := by
  have hlt : pf < w.heap.size := World.block_lt_of_cell? w _ hpf
  have hlt2 : ps < w.heap.size := World.block_lt_of_cell? w _ hps
  have hbl : b < w.heap.size := (Array.getElem?_eq_some_iff.1 hb).1
  have Hb := Lib.hid hb
  clear hb
  by_cases e1 : n.do_ = 1
  · have ha : aget n.do_ chk = some (.func (.func 109) #[.agg #[]] #[]) := by rw [e1]; rfl
    have hg := goodB_say (srcs := srcs) e1
    cases h1 : inB n.src 0 (srcs - 1)
    all_goals
      rw [hg, h1]
      have Ha := Lib.hid ha
      clear ha hg
      clear e1
      go_enter Try.func105, Try.ntmps105
      go_wp2_with (first | ((with_reducible refine at_lku rfl ?_); refine wpList_lookup_map kindLaw Try.underlying138 (z := .nilFunc) (fun w => by kernel_rfl) _ rfl _ _ _ rfl b rfl n.do_ rfl chk (alloc_old Hb.out _) _ Ha.out ?_) | (go_at_call 103; refine (hist_in _ _ _ _).mono ?_; rintro e w' ⟨rfl, rfl⟩) | (go_at_call 109; refine (hist_said n _).mono ?_; rintro e w' ⟨rfl, hb⟩))
      go_ret
      exact ⟨(by first | rfl | (simp; done) | (simp [*]; done)), (by repeat (first | exact Below.refl _ _ | assumption | apply below_alloc | apply below_drew1 | apply pw_below_drewN | refine below_step ?_ (by assumption)))⟩
  by_cases e2 : n.do_ = 2
  · have ha : aget n.do_ chk = some (.func (.func 110) #[.agg #[]] #[]) := by rw [e2]; rfl
    have hg := goodB_gone (srcs := srcs) e2
    cases h1 : inB n.src 0 (srcs - 1)
    all_goals
      rw [hg, h1]
      have Ha := Lib.hid ha
      clear ha hg
      clear e2
      go_enter Try.func105, Try.ntmps105
      go_wp2_with (first | ((with_reducible refine at_lku rfl ?_); refine wpList_lookup_map kindLaw Try.underlying138 (z := .nilFunc) (fun w => by kernel_rfl) _ rfl _ _ _ rfl b rfl n.do_ rfl chk (alloc_old Hb.out _) _ Ha.out ?_) | (go_at_call 103; refine (hist_in _ _ _ _).mono ?_; rintro e w' ⟨rfl, rfl⟩) | (go_at_call 110; refine (hist_gone n _).mono ?_; rintro e w' ⟨rfl, hb⟩))
      go_ret
      exact ⟨(by first | rfl | (simp; done) | (simp [*]; done)), (by repeat (first | exact Below.refl _ _ | assumption | apply below_alloc | apply below_drew1 | apply pw_below_drewN | refine below_step ?_ (by assumption)))⟩
  by_cases e3 : n.do_ = 3
  · have ha : aget n.do_ chk = some (.func (.func 111) #[.agg #[]] #[]) := by rw [e3]; rfl
    have hg := goodB_mark (srcs := srcs) e3
    cases h1 : inB n.src 0 (srcs - 1)
    all_goals
      rw [hg, h1]
      have Ha := Lib.hid ha
      clear ha hg
      clear e3
      go_enter Try.func105, Try.ntmps105
      go_wp2_with (first | ((with_reducible refine at_lku rfl ?_); refine wpList_lookup_map kindLaw Try.underlying138 (z := .nilFunc) (fun w => by kernel_rfl) _ rfl _ _ _ rfl b rfl n.do_ rfl chk (alloc_old Hb.out _) _ Ha.out ?_) | (go_at_call 103; refine (hist_in _ _ _ _).mono ?_; rintro e w' ⟨rfl, rfl⟩) | (go_at_call 111; refine (hist_marked n _).mono ?_; rintro e w' ⟨rfl, hb⟩))
      go_ret
      exact ⟨(by first | rfl | (simp; done) | (simp [*]; done)), (by repeat (first | exact Below.refl _ _ | assumption | apply below_alloc | apply below_drew1 | apply pw_below_drewN | refine below_step ?_ (by assumption)))⟩
  have ha : aget n.do_ chk = none := by simp [aget, chk, e1, e2, e3]
  have hg := goodB_none (srcs := srcs) e1 e2 e3
  rw [hg]
  have Ha := Lib.hid ha
  clear ha hg e1 e2 e3
  go_enter Try.func105, Try.ntmps105
  go_wp2_with (first | ((with_reducible refine at_lku rfl ?_); refine wpList_lookup_map kindLaw Try.underlying138 (z := .nilFunc) (fun w => by kernel_rfl) _ rfl _ _ _ rfl b rfl n.do_ rfl chk (alloc_old Hb.out _) _ Ha.out ?_))
  go_ret
  exact ⟨(by first | rfl | (simp; done) | (simp [*]; done)), (by repeat (first | exact Below.refl _ _ | assumption | apply below_alloc | apply below_drew1 | apply pw_below_drewN | refine below_step ?_ (by assumption)))⟩
end Go.Proofs.Ytfmojgdomficlaa
set_option linter.unusedVariables false
set_option linter.unusedSimpArgs false
/-! Rows of structs in memory, read element by element. -/
namespace Go.Proofs.Ytfmojgdomficlaa
open Go.RowKit Go.Proofs.YtfmojgdomficlaaW.PrintWords

def kRec : Kd Rec := Kd.iso (Kd.pair (Kd.int .i64) (Kd.pair (Kd.int .i64) (Kd.int .i64))) (fun x : Rec => (x.at_, x.key, x.val))
theorem kRec_open {w : World} {x : Rec} {cs : List Value} (h : kRec.K w x cs) : cs = [.int .i64 x.at_, .int .i64 x.key, .int .i64 x.val] := by
  obtain ⟨c1, c2, rfl, rfl, c3, c4, rfl, rfl, rfl⟩ := h; rfl
def kNews : Kd News := Kd.iso (Kd.pair (Kd.int .i64) (Kd.pair (Kd.int .i64) (Kd.pair (Kd.int .i64) (Kd.pair (Kd.int .i64) kRec)))) (fun x : News => (x.do_, x.src, x.id, x.ver, x.body))
theorem kNews_open {w : World} {x : News} {cs : List Value} (h : kNews.K w x cs) : cs = [.int .i64 x.do_, .int .i64 x.src, .int .i64 x.id, .int .i64 x.ver, .int .i64 x.body.at_, .int .i64 x.body.key, .int .i64 x.body.val] := by
  obtain ⟨c1, c2, rfl, rfl, c3, c4, rfl, rfl, c5, c6, rfl, rfl, c7, c8, rfl, rfl, h8⟩ := h
  obtain rfl := kRec_open h8; rfl
theorem kNews_mk (w : World) (x : News) : kNews.K w x [.int .i64 x.do_, .int .i64 x.src, .int .i64 x.id, .int .i64 x.ver, .int .i64 x.body.at_, .int .i64 x.body.key, .int .i64 x.body.val] :=
  ⟨[_], _, rfl, rfl, [_], _, rfl, rfl, [_], _, rfl, rfl, [_], _, rfl, rfl, [_], _, rfl, rfl, [_], [_], rfl, rfl, rfl⟩
theorem kNews_mkM (w : World) (base : Nat) (ok : Nat → Prop) (x : News) : kNews.M w base ok x [.int .i64 x.do_, .int .i64 x.src, .int .i64 x.id, .int .i64 x.ver, .int .i64 x.body.at_, .int .i64 x.body.key, .int .i64 x.body.val] :=
  ⟨[_], _, rfl, rfl, [_], _, rfl, rfl, [_], _, rfl, rfl, [_], _, rfl, rfl, [_], _, rfl, rfl, [_], [_], rfl, rfl, rfl⟩
def kEvent : Kd Event := Kd.iso (Kd.pair (Kd.int .i64) (Kd.pair (Kd.int .i64) kRec)) (fun x : Event => (x.src, x.id, x.body))
theorem kEvent_open {w : World} {x : Event} {cs : List Value} (h : kEvent.K w x cs) : cs = [.int .i64 x.src, .int .i64 x.id, .int .i64 x.body.at_, .int .i64 x.body.key, .int .i64 x.body.val] := by
  obtain ⟨c1, c2, rfl, rfl, c3, c4, rfl, rfl, h8⟩ := h
  obtain rfl := kRec_open h8; rfl

/-- A slice of news that is read. -/
abbrev NewsRow (w : World) (A : Option Addr) (n : Nat) (l : List News) : Prop := Kd.C kNews w A n l

theorem row_at {α : Type} {d : Kd α} {w : World} {A : Option Addr} {n : Nat} {l : List α} (h : Kd.C d w A n l) (k : Nat) (hk : k < n) :
    ∃ x c ad, l.drop k = x :: l.drop (k + 1) ∧ l.take (k + 1) = l.take k ++ [x] ∧ l[k]? = some x ∧ A = some ad ∧ d.K w x c ∧ ∀ j u, c[j]? = some u → w.cell? (ad.add (k * d.sz + j)) = some u := by
  obtain ⟨h1, h2, h3⟩ := h
  obtain ⟨ad, e, hc⟩ := h3 (by omega)
  have hl : k < l.length := by omega
  obtain ⟨c, hs, hr, hcell⟩ := hc k l[k] (List.getElem?_eq_getElem hl)
  exact ⟨l[k], c, ad, List.drop_eq_getElem_cons hl, by rw [List.take_succ_eq_append_getElem hl], List.getElem?_eq_getElem hl, e, hr, hcell⟩
/-- The same in a later world. -/
theorem news_later {w wr : World} {A : Option Addr} {n : Nat} {l : List News} (h : NewsRow w A n l) (hB : Below w.heap.size w wr) : NewsRow wr A n l := Kd.C_below h hB
theorem cell_later' {w wr : World} (hB : Below w.heap.size w wr) {b o : Nat} {v : Value} (h : w.cell? ⟨b, o, none⟩ = some v) : wr.cell? ⟨b, o, none⟩ = some v := (hB.cell (World.block_lt_of_cell? w _ h)).trans h
theorem heap_later {w wr : World} (hB : Below w.heap.size w wr) {b : Nat} {o : Obj} (h : w.heap[b]? = some o) : wr.heap[b]? = some o := (hB.block b (Array.getElem?_eq_some_iff.1 h).1).trans h
theorem news_at {w : World} {A : Option Addr} {n : Nat} {l : List News} (h : NewsRow w A n l) (k : Nat) (hk : k < n) :
    ∃ x ad, l.drop k = x :: l.drop (k + 1) ∧ l.take (k + 1) = l.take k ++ [x] ∧ l[k]? = some x ∧ A = some ad ∧ w.cell? (ad.add (k * 7)) = some (.int .i64 x.do_) ∧
      w.cell? ⟨(ad.add (k * 7)).block, (ad.add (k * 7)).off + 1, none⟩ = some (.int .i64 x.src) ∧ w.cell? ⟨(ad.add (k * 7)).block, (ad.add (k * 7)).off + 2, none⟩ = some (.int .i64 x.id) ∧
      w.cell? ⟨(ad.add (k * 7)).block, (ad.add (k * 7)).off + 3, none⟩ = some (.int .i64 x.ver) ∧ w.cell? ⟨(ad.add (k * 7)).block, (ad.add (k * 7)).off + 4, none⟩ = some (.int .i64 x.body.at_) ∧
      w.cell? ⟨(ad.add (k * 7)).block, (ad.add (k * 7)).off + 5, none⟩ = some (.int .i64 x.body.key) ∧ w.cell? ⟨(ad.add (k * 7)).block, (ad.add (k * 7)).off + 6, none⟩ = some (.int .i64 x.body.val) := by
  obtain ⟨x, c, ad, h1, h2, h3, h4, h5, h6⟩ := row_at h k hk
  obtain rfl := kNews_open h5
  have hc : ∀ j u, [.int .i64 x.do_, .int .i64 x.src, .int .i64 x.id, .int .i64 x.ver, .int .i64 x.body.at_, .int .i64 x.body.key, .int .i64 x.body.val][j]? = some u → w.cell? (ad.add (k * 7 + j)) = some u := h6
  exact ⟨x, ad, h1, h2, h3, h4, hc 0 _ rfl, by rw [← add_field _ _ 1 (by omega)]; exact hc 1 _ rfl, by rw [← add_field _ _ 2 (by omega)]; exact hc 2 _ rfl, by rw [← add_field _ _ 3 (by omega)]; exact hc 3 _ rfl, by rw [← add_field _ _ 4 (by omega)]; exact hc 4 _ rfl, by rw [← add_field _ _ 5 (by omega)]; exact hc 5 _ rfl, by rw [← add_field _ _ 6 (by omega)]; exact hc 6 _ rfl⟩
end Go.Proofs.Ytfmojgdomficlaa
set_option linter.unusedVariables false
set_option linter.unusedSimpArgs false
namespace Go.Proofs.Ytfmojgdomficlaa
open Go.RowKit Go.Proofs.YtfmojgdomficlaaW.PrintWords

/-- What IndexFunc tells: is there one. -/
def IdxPost (w : World) (p : Bool) (e : Ending) (w' : World) : Prop := ∃ r : Int, e = .returned (.int .i64 r) ∧ decide (0 ≤ r) = p ∧ Below w.heap.size w w'

set_option maxRecDepth 100000 in
set_option maxHeartbeats 400000 in
theorem hist_index (l : List News) (A : Option Addr) (c : Nat) (pf ps : Nat) (b : Nat) (srcs : Int) (w : World) (hr : NewsRow w A l.length l) (hs1 : 1 ≤ srcs) (hs4 : srcs ≤ 4) (hpf : w.cell? ⟨pf, 0, none⟩ = some (.map (some b))) (hb : w.heap[b]? = some (mapObj (Value.int .i64) chk)) (hps : w.cell? ⟨ps, 0, none⟩ = some (.int .i64 srcs)) :
    Calls Try.prog 112 #[.slice A l.length c, .func (.func 105) #[] #[.pointer (some ⟨pf, 0, none⟩), .pointer (some ⟨ps, 0, none⟩)]] w (IdxPost w (l.any fun n => !goodB n srcs)) := by
  have hlt : pf < w.heap.size := World.block_lt_of_cell? w _ hpf
  have hlt2 : ps < w.heap.size := World.block_lt_of_cell? w _ hps
  have hbl : b < w.heap.size := (Array.getElem?_eq_some_iff.1 hb).1
  have hm : l.length ≤ 9223372036854775807 := hr.2.1
  have Hb := Lib.hid hb
  have Hpf := Lib.hid hpf
  have Hps := Lib.hid hps
  have Hr := Lib.hid hr
  clear hb hpf hps hr
  go_enter Try.func112, Try.ntmps112
  go_wp2
  go_loopw [8] (fun i wr => ∃ k : Nat, k ≤ l.length ∧ i = .int .i64 k ∧ Below w.heap.size w wr ∧ Hid ((l.take k).any (fun n => !goodB n srcs) = false)) (fun i _ => l.length - (intOf i).toNat)
  case atStart => exact ⟨0, Nat.zero_le _, rfl, Below.refl _ _, Lib.hid rfl⟩
  case round =>
    obtain ⟨k, hk, rfl, hB, Hany⟩ := hrel
    by_cases hlt : k < l.length
    · obtain ⟨x, ad, hd, htk, hget, rfl, c0, c1, c2, c3, c4, c5, c6⟩ := news_at (news_later Hr.out hB) k hlt
      have Htk := Lib.hid htk
      have Hget := Lib.hid hget
      clear hd htk hget
      cases hx : goodB x srcs
      · go_wp2_with (first | (go_at_call 105; refine (hist_plain1 x pf ps b srcs _ hs1 hs4 (cell_later' hB Hpf.out) (heap_later hB Hb.out) (cell_later' hB Hps.out)).mono ?_; rintro e w' ⟨rfl, hb⟩))
        go_ret
        refine ⟨k, rfl, ?_, below_step hB hb⟩
        have : (l.any fun n => !goodB n srcs) = true := by
          rw [List.any_eq_true]
          exact ⟨x, List.mem_of_getElem? Hget.out, by simp [hx]⟩
        rw [this]; simp
      · go_wp2_with (first | (go_at_call 105; refine (hist_plain1 x pf ps b srcs _ hs1 hs4 (cell_later' hB Hpf.out) (heap_later hB Hb.out) (cell_later' hB Hps.out)).mono ?_; rintro e w' ⟨rfl, hb⟩))
        exact ⟨⟨k + 1, by omega, by go_num, below_step hB hb, Lib.hid (by rw [Htk.out, List.any_append, Hany.out]; simp [hx])⟩, by simp [intOf]; omega⟩
    · have hkl : k = l.length := by omega
      go_wp2
      go_ret
      refine ⟨-1, rfl, ?_, hB⟩
      have := Hany.out
      rw [hkl, List.take_length] at this
      rw [this]; rfl

set_option maxRecDepth 100000 in
set_option maxHeartbeats 400000 in
theorem hist_contains (l : List News) (A : Option Addr) (c : Nat) (pf ps : Nat) (b : Nat) (srcs : Int) (w : World) (hr : NewsRow w A l.length l) (hs1 : 1 ≤ srcs) (hs4 : srcs ≤ 4) (hpf : w.cell? ⟨pf, 0, none⟩ = some (.map (some b))) (hb : w.heap[b]? = some (mapObj (Value.int .i64) chk)) (hps : w.cell? ⟨ps, 0, none⟩ = some (.int .i64 srcs)) :
    Calls Try.prog 104 #[.slice A l.length c, .func (.func 105) #[] #[.pointer (some ⟨pf, 0, none⟩), .pointer (some ⟨ps, 0, none⟩)]] w fun e w' => e = .returned (.bool (l.any fun n => !goodB n srcs)) ∧ Below w.heap.size w w' := by
  go_enter Try.func104, Try.ntmps104
  go_wp2_with (first | (go_at_call 112; refine (hist_index l A c pf ps b srcs _ hr hs1 hs4 hpf hb hps).mono ?_; rintro e w' ⟨r, rfl, hd, hb⟩))
  go_ret
  exact ⟨by rw [← hd]; rfl, hb⟩

set_option maxRecDepth 100000 in
set_option maxHeartbeats 400000 in
theorem hist_plain (l : List News) (A : Option Addr) (c : Nat) (srcs : Int) (w : World) (hr : NewsRow w A l.length l) :
    Calls Try.prog 98 #[.slice A l.length c, .int .i64 srcs] w fun e w' => e = .returned (.bool (plainB l srcs)) ∧ Below w.heap.size w w' := by
  have hmf : ∀ (fn : Fn) (first cap : Array Value) (w : World), (Instr.makeFunc fn first cap).run Try.prog w = .ok (.func fn first cap) w := fun _ _ _ _ => rfl
  have hm : l.length ≤ 9223372036854775807 := hr.2.1
  have Hr := Lib.hid hr
  clear hr
  unfold plainB
  cases h1 : inB srcs 1 4
  · go_enter Try.func98, Try.ntmps98
    go_wp2_with (first | (go_at_call 103; refine (hist_in _ _ _ _).mono ?_; rintro e w' ⟨rfl, rfl⟩) | (go_at_call 102; refine (hist_checks _).mono ?_; rintro e w1 ⟨b, rfl, hbs, hmap, hb⟩; obtain ⟨hc, hf⟩ := bcell hb; have hz : w.heap.size < w1.heap.size := by have := hb.size; simp at this; omega))
    go_ret
    exact ⟨(by first | rfl | (simp; done) | (simp [*]; done)), (by repeat (first | exact Below.refl _ _ | assumption | apply below_alloc | apply below_drew1 | apply pw_below_drewN | refine below_step ?_ (by assumption)))⟩
  · have hb14 : 1 ≤ srcs ∧ srcs ≤ 4 := by simpa [inB] using h1
    obtain ⟨hs1, hs4⟩ := hb14
    by_cases hl : l.length ≤ 60
    · go_enter Try.func98, Try.ntmps98
      go_wp2_with (first | (go_at_call 103; refine (hist_in _ _ _ _).mono ?_; rintro e w' ⟨rfl, rfl⟩) | (go_at_call 102; go_must (refine (hist_checks _).mono ?_; rintro e w1 ⟨b, rfl, hbs, hmap, hb⟩; obtain ⟨hc, hf⟩ := bcell hb; have hz : w.heap.size < w1.heap.size := by (have := hb.size; simp at this; omega)); have Hmap := Lib.hid hmap; clear hmap) | (go_at_call 104; refine (hist_contains l A c _ _ b srcs _ (news_later Hr.out (by repeat (first | exact Below.refl _ _ | assumption | apply below_alloc | apply below_drew1 | apply pw_below_drewN | refine below_step ?_ (by assumption)))) hs1 hs4 ?hpf (alloc_old Hmap.out _) ?hps).mono ?_; rotate_left 2; rintro e w' ⟨rfl, hb2⟩))
      · go_ret
        exact ⟨by simp [hl], by exact below_step (below_alloc (below_step (below_alloc (Below.refl _ _) _) hb) _) hb2⟩
      · go_simp
      · go_simp
    · go_enter Try.func98, Try.ntmps98
      go_wp2_with (first | (go_at_call 103; refine (hist_in _ _ _ _).mono ?_; rintro e w' ⟨rfl, rfl⟩) | (go_at_call 102; go_must (refine (hist_checks _).mono ?_; rintro e w1 ⟨b, rfl, hbs, hmap, hb⟩; obtain ⟨hc, hf⟩ := bcell hb; have hz : w.heap.size < w1.heap.size := by (have := hb.size; simp at this; omega)); have Hmap := Lib.hid hmap; clear hmap))
      go_ret
      exact ⟨by simp [hl], (by repeat (first | exact Below.refl _ _ | assumption | apply below_alloc | apply below_drew1 | apply pw_below_drewN | refine below_step ?_ (by assumption)))⟩
end Go.Proofs.Ytfmojgdomficlaa
set_option linter.unusedVariables false
set_option linter.unusedSimpArgs false
namespace Go.Proofs.Ytfmojgdomficlaa
open Go.RowKit Go.Proofs.YtfmojgdomficlaaW.PrintWords

set_option maxHeartbeats 400000 in
theorem hist_of_exact (n : News) (w : World) :
    Calls Try.prog 106 #[.agg #[.int .i64 n.do_, .int .i64 n.src, .int .i64 n.id, .int .i64 n.ver, .int .i64 n.body.at_, .int .i64 n.body.key, .int .i64 n.body.val]] w fun e w' => e = .returned (.agg #[.int .i64 n.src, .int .i64 n.id]) ∧ w' = (w.alloc (.cells #[.int .i64 n.do_, .int .i64 n.src, .int .i64 n.id, .int .i64 n.ver, .int .i64 n.body.at_, .int .i64 n.body.key, .int .i64 n.body.val] 26)).alloc (.cells #[.int .i64 n.src, .int .i64 n.id] 143) := by
  go_enter Try.func106, Try.ntmps106
  go_wp2
  refine bodyPost_ret (v := .agg #[.int .i64 n.src, .int .i64 n.id]) (by simp [results, Try.results106, go_sem]) rfl ⟨rfl, rfl⟩

set_option maxHeartbeats 400000 in
theorem hist_of (n : News) (w : World) :
    Calls Try.prog 106 #[.agg #[.int .i64 n.do_, .int .i64 n.src, .int .i64 n.id, .int .i64 n.ver, .int .i64 n.body.at_, .int .i64 n.body.key, .int .i64 n.body.val]] w fun e w' => e = .returned (.agg #[.int .i64 n.src, .int .i64 n.id]) ∧ Below w.heap.size w w' := by
  go_enter Try.func106, Try.ntmps106
  go_wp2
  refine bodyPost_ret (v := .agg #[.int .i64 n.src, .int .i64 n.id]) (by simp [results, Try.results106, go_sem]) rfl ⟨rfl, (by repeat (first | exact Below.refl _ _ | assumption | apply below_alloc | apply below_drew1 | apply pw_below_drewN | refine below_step ?_ (by assumption)))⟩

theorem clashB_mark {m n : News} (h : n.do_ = 3) : clashB m n = false := by simp [clashB, h]
theorem clashB_mark1 {m n : News} (h : (m.do_ == 3) = true) : clashB m n = false := by simp [clashB, h]
theorem clashB_key {m n : News} (h : keyEq ⟨m.src, m.id⟩ ⟨n.src, n.id⟩ = false) : clashB m n = false := by
  simp [keyEq] at h
  by_cases e : m.src = n.src <;> simp [clashB, e, h]
theorem clashB_ver {m n : News} (h : (m.ver == n.ver) = false) : clashB m n = false := by simp [clashB, h]
theorem clashB_same {m n : News} (h : newsEq m n = true) : clashB m n = false := by simp [clashB, h]
theorem clashB_yes {m n : News} (h1 : (m.do_ == 3) = false) (h2 : (n.do_ == 3) = false) (h3 : keyEq ⟨m.src, m.id⟩ ⟨n.src, n.id⟩ = true) (h4 : (m.ver == n.ver) = true) (h5 : newsEq m n = false) : clashB m n = true := by
  simp [keyEq] at h3
  simp [clashB, h1, h2, h3, h4, h5]
theorem clashIn_mark {n : News} (h : n.do_ = 3) : ∀ (l : List News) (i : Nat), clashIn n l i = none
  | [], i => rfl
  | m :: l, i => by rw [clashIn, clashB_mark h]; exact clashIn_mark h l (i + 1)
theorem drop_take_cons {α : Type} {l : List α} {x : α} {j k : Nat} (h : l[j]? = some x) (hj : j < k) : (l.take k).drop j = x :: (l.take k).drop (j + 1) := by
  have hl : j < l.length := (List.getElem?_eq_some_iff.1 h).1
  have hlen : j < (l.take k).length := by rw [List.length_take]; omega
  rw [List.drop_eq_getElem_cons hlen]
  congr 1
  rw [List.getElem_take]
  exact (List.getElem?_eq_some_iff.1 h).2

/-- What the test's two structs hold, in whatever later world. -/
structure Held2 (W1 : World) (b6 b8 : Nat) (n m : News) (W : World) : Prop where
  below : Below W1.heap.size W1 W
  n0 : W.cell? ⟨b6, 0, none⟩ = some (.int .i64 n.do_)
  n1 : W.cell? ⟨b6, 1, none⟩ = some (.int .i64 n.src)
  n2 : W.cell? ⟨b6, 2, none⟩ = some (.int .i64 n.id)
  n3 : W.cell? ⟨b6, 3, none⟩ = some (.int .i64 n.ver)
  n4 : W.cell? ⟨b6, 4, none⟩ = some (.int .i64 n.body.at_)
  n5 : W.cell? ⟨b6, 5, none⟩ = some (.int .i64 n.body.key)
  n6 : W.cell? ⟨b6, 6, none⟩ = some (.int .i64 n.body.val)
  m0 : W.cell? ⟨b8, 0, none⟩ = some (.int .i64 m.do_)
  m1 : W.cell? ⟨b8, 1, none⟩ = some (.int .i64 m.src)
  m2 : W.cell? ⟨b8, 2, none⟩ = some (.int .i64 m.id)
  m3 : W.cell? ⟨b8, 3, none⟩ = some (.int .i64 m.ver)
  m4 : W.cell? ⟨b8, 4, none⟩ = some (.int .i64 m.body.at_)
  m5 : W.cell? ⟨b8, 5, none⟩ = some (.int .i64 m.body.key)
  m6 : W.cell? ⟨b8, 6, none⟩ = some (.int .i64 m.body.val)
theorem Held2.step {W1 W W' : World} {b6 b8 : Nat} {n m : News} (h : Held2 W1 b6 b8 n m W) (hb : Below W.heap.size W W') : Held2 W1 b6 b8 n m W' := by
  obtain ⟨h0, h1, h2, h3, h4, h5, h6, h7, h8, h9, h10, h11, h12, h13, h14⟩ := h
  refine ⟨below_step h0 hb, ?_, ?_, ?_, ?_, ?_, ?_, ?_, ?_, ?_, ?_, ?_, ?_, ?_, ?_⟩ <;> exact cell_later' hb (by assumption)

/-- What a list's clash tells: the first two (by the second one). -/
def ClashPost (l : List News) (w : World) (e : Ending) (w' : World) : Prop := ∃ i k b, e = .returned (.tuple #[.int .i64 i, .int .i64 k, .bool b]) ∧ (i, k, b) = clashOf l ∧ Below w.heap.size w w'

set_option maxRecDepth 100000 in
set_option maxHeartbeats 1000000 in
theorem hist_clash (l : List News) (A : Option Addr) (c : Nat) (w : World) (hr : NewsRow w A l.length l) (hc : l.length ≤ c) :
    Calls Try.prog 99 #[.slice A l.length c] w (ClashPost l w) := by
  have hm : l.length ≤ 9223372036854775807 := hr.2.1
  have Hr := Lib.hid hr
  clear hr
  go_enter Try.func99, Try.ntmps99
  go_wp2
  go_step3
  go_wp2
  go_step3
  go_wp2
  go_loopw [2, 3, 4, 11] (fun x y z i wr => ∃ k : Nat, k ≤ l.length ∧ x = .int .i64 0 ∧ y = .int .i64 0 ∧ z = .bool false ∧ i = .int .i64 k ∧ Below w.heap.size w wr ∧ Hid (clashFrom [] l = clashFrom (l.take k) (l.drop k))) (fun _ _ _ i _ => l.length - (intOf i).toNat)
  case atStart => exact ⟨0, Nat.zero_le _, rfl, rfl, rfl, rfl, Below.refl _ _, Lib.hid rfl⟩
  case round =>
    obtain ⟨k, hk, rfl, rfl, rfl, rfl, hB, Hcl⟩ := hrel
    by_cases hlt : k < l.length
    · obtain ⟨n, ad, hd, htk, hget, rfl, c0, c1, c2, c3, c4, c5, c6⟩ := news_at (news_later Hr.out hB) k hlt
      have Hd := Lib.hid hd
      have Htk := Lib.hid htk
      clear hd htk hget
      by_cases h3 : n.do_ = 3
      · have H3 := Lib.hid h3
        have hb3 : (n.do_ == 3) = true := by simpa using h3
        clear h3
        go_wp2
        exact ⟨⟨k + 1, by omega, rfl, rfl, rfl, by go_num, (by repeat (first | exact Below.refl _ _ | assumption | apply below_alloc | apply below_drew1 | apply pw_below_drewN | refine below_step ?_ (by assumption))), Lib.hid (by rw [Hcl.out, Hd.out, clashFrom, clashIn_mark H3.out, Htk.out])⟩, by simp [intOf]; omega⟩
      · have hb3 : (n.do_ == 3) = false := by simpa using h3
        have hkc : k ≤ c := by omega
        obtain ⟨wo, rfl⟩ : ∃ wo : World, wo = wr := ⟨_, rfl⟩
        go_wp2
        have g0 : (wo.alloc (.cells #[.int .i64 n.do_, .int .i64 n.src, .int .i64 n.id, .int .i64 n.ver, .int .i64 n.body.at_, .int .i64 n.body.key, .int .i64 n.body.val] 26)).cell? ⟨wo.heap.size, 0, none⟩ = some (.int .i64 n.do_) := by go_simp
        have g1 : (wo.alloc (.cells #[.int .i64 n.do_, .int .i64 n.src, .int .i64 n.id, .int .i64 n.ver, .int .i64 n.body.at_, .int .i64 n.body.key, .int .i64 n.body.val] 26)).cell? ⟨wo.heap.size, 1, none⟩ = some (.int .i64 n.src) := by go_simp
        have g2 : (wo.alloc (.cells #[.int .i64 n.do_, .int .i64 n.src, .int .i64 n.id, .int .i64 n.ver, .int .i64 n.body.at_, .int .i64 n.body.key, .int .i64 n.body.val] 26)).cell? ⟨wo.heap.size, 2, none⟩ = some (.int .i64 n.id) := by go_simp
        have g3 : (wo.alloc (.cells #[.int .i64 n.do_, .int .i64 n.src, .int .i64 n.id, .int .i64 n.ver, .int .i64 n.body.at_, .int .i64 n.body.key, .int .i64 n.body.val] 26)).cell? ⟨wo.heap.size, 3, none⟩ = some (.int .i64 n.ver) := by go_simp
        have g4 : (wo.alloc (.cells #[.int .i64 n.do_, .int .i64 n.src, .int .i64 n.id, .int .i64 n.ver, .int .i64 n.body.at_, .int .i64 n.body.key, .int .i64 n.body.val] 26)).cell? ⟨wo.heap.size, 4, none⟩ = some (.int .i64 n.body.at_) := by go_simp
        have g5 : (wo.alloc (.cells #[.int .i64 n.do_, .int .i64 n.src, .int .i64 n.id, .int .i64 n.ver, .int .i64 n.body.at_, .int .i64 n.body.key, .int .i64 n.body.val] 26)).cell? ⟨wo.heap.size, 5, none⟩ = some (.int .i64 n.body.key) := by go_simp
        have g6 : (wo.alloc (.cells #[.int .i64 n.do_, .int .i64 n.src, .int .i64 n.id, .int .i64 n.ver, .int .i64 n.body.at_, .int .i64 n.body.key, .int .i64 n.body.val] 26)).cell? ⟨wo.heap.size, 6, none⟩ = some (.int .i64 n.body.val) := by go_simp
        have hB0 : Below w.heap.size w (wo.alloc (.cells #[.int .i64 n.do_, .int .i64 n.src, .int .i64 n.id, .int .i64 n.ver, .int .i64 n.body.at_, .int .i64 n.body.key, .int .i64 n.body.val] 26)) := below_alloc hB _
        generalize (wo.alloc (.cells #[.int .i64 n.do_, .int .i64 n.src, .int .i64 n.id, .int .i64 n.ver, .int .i64 n.body.at_, .int .i64 n.body.key, .int .i64 n.body.val] 26)) = W0 at *
        generalize wo.heap.size = b6 at *
        clear c0 c1 c2 c3 c4 c5 c6 hB
        go_loopw [2, 3, 4, 23] (fun x y z i wr => ∃ j : Nat, j ≤ k ∧ x = .int .i64 0 ∧ y = .int .i64 0 ∧ z = .bool false ∧ i = .int .i64 j ∧ Below W0.heap.size W0 wr ∧ Hid (clashIn n (l.take k) 0 = clashIn n ((l.take k).drop j) j)) (fun _ _ _ i _ => k - (intOf i).toNat)
        case atStart => exact ⟨0, Nat.zero_le _, rfl, rfl, rfl, rfl, Below.refl _ _, Lib.hid rfl⟩
        case round =>
          obtain ⟨j, hj, rfl, rfl, rfl, rfl, hB, Hci⟩ := hrel
          by_cases hjk : j < k
          · obtain ⟨m, ad', hd, htk, hget, e', c0, c1, c2, c3, c4, c5, c6⟩ := news_at (news_later Hr.out (below_step hB0 hB)) j (by omega)
            cases e'
            have Hdm : Hid ((l.take k).drop j = m :: (l.take k).drop (j + 1)) := Lib.hid (drop_take_cons hget hjk)
            clear hd htk hget
            replace g0 := cell_later' hB g0
            replace g1 := cell_later' hB g1
            replace g2 := cell_later' hB g2
            replace g3 := cell_later' hB g3
            replace g4 := cell_later' hB g4
            replace g5 := cell_later' hB g5
            replace g6 := cell_later' hB g6
            have hbj : b6 < wr.heap.size := World.block_lt_of_cell? wr _ g0
            go_upto_region 8 with (fail)
            have i0 : (wr.alloc (.cells #[.int .i64 m.do_, .int .i64 m.src, .int .i64 m.id, .int .i64 m.ver, .int .i64 m.body.at_, .int .i64 m.body.key, .int .i64 m.body.val] 26)).cell? ⟨wr.heap.size, 0, none⟩ = some (.int .i64 m.do_) := by go_simp
            have i1 : (wr.alloc (.cells #[.int .i64 m.do_, .int .i64 m.src, .int .i64 m.id, .int .i64 m.ver, .int .i64 m.body.at_, .int .i64 m.body.key, .int .i64 m.body.val] 26)).cell? ⟨wr.heap.size, 1, none⟩ = some (.int .i64 m.src) := by go_simp
            have i2 : (wr.alloc (.cells #[.int .i64 m.do_, .int .i64 m.src, .int .i64 m.id, .int .i64 m.ver, .int .i64 m.body.at_, .int .i64 m.body.key, .int .i64 m.body.val] 26)).cell? ⟨wr.heap.size, 2, none⟩ = some (.int .i64 m.id) := by go_simp
            have i3 : (wr.alloc (.cells #[.int .i64 m.do_, .int .i64 m.src, .int .i64 m.id, .int .i64 m.ver, .int .i64 m.body.at_, .int .i64 m.body.key, .int .i64 m.body.val] 26)).cell? ⟨wr.heap.size, 3, none⟩ = some (.int .i64 m.ver) := by go_simp
            have i4 : (wr.alloc (.cells #[.int .i64 m.do_, .int .i64 m.src, .int .i64 m.id, .int .i64 m.ver, .int .i64 m.body.at_, .int .i64 m.body.key, .int .i64 m.body.val] 26)).cell? ⟨wr.heap.size, 4, none⟩ = some (.int .i64 m.body.at_) := by go_simp
            have i5 : (wr.alloc (.cells #[.int .i64 m.do_, .int .i64 m.src, .int .i64 m.id, .int .i64 m.ver, .int .i64 m.body.at_, .int .i64 m.body.key, .int .i64 m.body.val] 26)).cell? ⟨wr.heap.size, 5, none⟩ = some (.int .i64 m.body.key) := by go_simp
            have i6 : (wr.alloc (.cells #[.int .i64 m.do_, .int .i64 m.src, .int .i64 m.id, .int .i64 m.ver, .int .i64 m.body.at_, .int .i64 m.body.key, .int .i64 m.body.val] 26)).cell? ⟨wr.heap.size, 6, none⟩ = some (.int .i64 m.body.val) := by go_simp
            have hB1 : Below W0.heap.size W0 (wr.alloc (.cells #[.int .i64 m.do_, .int .i64 m.src, .int .i64 m.id, .int .i64 m.ver, .int .i64 m.body.at_, .int .i64 m.body.key, .int .i64 m.body.val] 26)) := below_alloc hB _
            have hBa : Below wr.heap.size wr (wr.alloc (.cells #[.int .i64 m.do_, .int .i64 m.src, .int .i64 m.id, .int .i64 m.ver, .int .i64 m.body.at_, .int .i64 m.body.key, .int .i64 m.body.val] 26)) := below_alloc (Below.refl _ _) _
            replace g0 := cell_later' hBa g0
            replace g1 := cell_later' hBa g1
            replace g2 := cell_later' hBa g2
            replace g3 := cell_later' hBa g3
            replace g4 := cell_later' hBa g4
            replace g5 := cell_later' hBa g5
            replace g6 := cell_later' hBa g6
            clear hBa hB c0 c1 c2 c3 c4 c5 c6 hbj
            generalize (wr.alloc (.cells #[.int .i64 m.do_, .int .i64 m.src, .int .i64 m.id, .int .i64 m.ver, .int .i64 m.body.at_, .int .i64 m.body.key, .int .i64 m.body.val] 26)) = W1 at *
            generalize wr.heap.size = b8 at *
            go_cut [49] (fun v wc => v = .bool (clashB m n) ∧ Below W1.heap.size W1 wc)
            case first =>
              have HB1 := Lib.hid hB1
              clear hB1
              cases hm3 : (m.do_ == 3)
              · have hm3' : (m.do_ != 3) = true := by simpa using hm3
                cases hkey : keyEq ⟨m.src, m.id⟩ ⟨n.src, n.id⟩
                · have hcb := Lib.hid (clashB_key (m := m) (n := n) hkey)
                  refine wp_region_in (Held2 W1 b6 b8 n m) (by kernel_rfl) (by kernel_rfl) ⟨below_drew1 (Below.refl _ _), g0, g1, g2, g3, g4, g5, g6, i0, i1, i2, i3, i4, i5, i6⟩ ?_
                  clear g0 g1 g2 g3 g4 g5 g6 i0 i1 i2 i3 i4 i5 i6
                  go_simp
                  repeat (refine wpQuiet_step (fun K hK => ?_); go_simp; first | (refine hK _ ?_; clear hK K) | (apply Exists.intro; refine ⟨fun W hC => ?_, hK _ ?_⟩; (first | rfl | ((with_reducible refine (hist_of m _).mono ?_); rintro e w' ⟨rfl, hb⟩; exact ⟨rfl, hC.step hb⟩) | ((with_reducible refine (hist_of n _).mono ?_); rintro e w' ⟨rfl, hb⟩; exact ⟨rfl, hC.step hb⟩) | (obtain ⟨h0, h1, h2, h3, h4, h5, h6, h7, h8, h9, h10, h11, h12, h13, h14⟩ := hC; go_simp; rfl)); clear hK K))
                  refine wpQuiet_nil ?_
                  intro W hC
                  have HC := Lib.hid hC.below
                  clear hC
                  go_wp2
                  go_meet
                  case rel => exact ⟨by rw [hcb.out], HC.out⟩
                · cases hver : (m.ver == n.ver)
                  · have hcb := Lib.hid (clashB_ver (m := m) (n := n) hver)
                    refine wp_region_in (Held2 W1 b6 b8 n m) (by kernel_rfl) (by kernel_rfl) ⟨below_drew1 (Below.refl _ _), g0, g1, g2, g3, g4, g5, g6, i0, i1, i2, i3, i4, i5, i6⟩ ?_
                    clear g0 g1 g2 g3 g4 g5 g6 i0 i1 i2 i3 i4 i5 i6
                    go_simp
                    repeat (refine wpQuiet_step (fun K hK => ?_); go_simp; first | (refine hK _ ?_; clear hK K) | (apply Exists.intro; refine ⟨fun W hC => ?_, hK _ ?_⟩; (first | rfl | ((with_reducible refine (hist_of m _).mono ?_); rintro e w' ⟨rfl, hb⟩; exact ⟨rfl, hC.step hb⟩) | ((with_reducible refine (hist_of n _).mono ?_); rintro e w' ⟨rfl, hb⟩; exact ⟨rfl, hC.step hb⟩) | (obtain ⟨h0, h1, h2, h3, h4, h5, h6, h7, h8, h9, h10, h11, h12, h13, h14⟩ := hC; go_simp; rfl)); clear hK K))
                    refine wpQuiet_nil ?_
                    intro W hC
                    have HC := Lib.hid hC.below
                    clear hC
                    go_wp2
                    go_meet
                    case rel => exact ⟨by rw [hcb.out], HC.out⟩
                  · cases hne : newsEq ⟨m.do_, m.src, m.id, m.ver, ⟨m.body.at_, m.body.key, m.body.val⟩⟩ ⟨n.do_, n.src, n.id, n.ver, ⟨n.body.at_, n.body.key, n.body.val⟩⟩
                    · have hcb := Lib.hid (clashB_yes (m := m) (n := n) hm3 hb3 hkey hver hne)
                      refine wp_region_in (Held2 W1 b6 b8 n m) (by kernel_rfl) (by kernel_rfl) ⟨below_drew1 (Below.refl _ _), g0, g1, g2, g3, g4, g5, g6, i0, i1, i2, i3, i4, i5, i6⟩ ?_
                      clear g0 g1 g2 g3 g4 g5 g6 i0 i1 i2 i3 i4 i5 i6
                      go_simp
                      repeat (refine wpQuiet_step (fun K hK => ?_); go_simp; first | (refine hK _ ?_; clear hK K) | (apply Exists.intro; refine ⟨fun W hC => ?_, hK _ ?_⟩; (first | rfl | ((with_reducible refine (hist_of m _).mono ?_); rintro e w' ⟨rfl, hb⟩; exact ⟨rfl, hC.step hb⟩) | ((with_reducible refine (hist_of n _).mono ?_); rintro e w' ⟨rfl, hb⟩; exact ⟨rfl, hC.step hb⟩) | (obtain ⟨h0, h1, h2, h3, h4, h5, h6, h7, h8, h9, h10, h11, h12, h13, h14⟩ := hC; go_simp; rfl)); clear hK K))
                      refine wpQuiet_nil ?_
                      intro W hC
                      have HC := Lib.hid hC.below
                      clear hC
                      go_wp2
                      go_meet
                      case rel => exact ⟨by rw [hcb.out], HC.out⟩
                    · have hcb := Lib.hid (clashB_same (m := m) (n := n) hne)
                      refine wp_region_in (Held2 W1 b6 b8 n m) (by kernel_rfl) (by kernel_rfl) ⟨below_drew1 (Below.refl _ _), g0, g1, g2, g3, g4, g5, g6, i0, i1, i2, i3, i4, i5, i6⟩ ?_
                      clear g0 g1 g2 g3 g4 g5 g6 i0 i1 i2 i3 i4 i5 i6
                      go_simp
                      repeat (refine wpQuiet_step (fun K hK => ?_); go_simp; first | (refine hK _ ?_; clear hK K) | (apply Exists.intro; refine ⟨fun W hC => ?_, hK _ ?_⟩; (first | rfl | ((with_reducible refine (hist_of m _).mono ?_); rintro e w' ⟨rfl, hb⟩; exact ⟨rfl, hC.step hb⟩) | ((with_reducible refine (hist_of n _).mono ?_); rintro e w' ⟨rfl, hb⟩; exact ⟨rfl, hC.step hb⟩) | (obtain ⟨h0, h1, h2, h3, h4, h5, h6, h7, h8, h9, h10, h11, h12, h13, h14⟩ := hC; go_simp; rfl)); clear hK K))
                      refine wpQuiet_nil ?_
                      intro W hC
                      have HC := Lib.hid hC.below
                      clear hC
                      go_wp2
                      go_meet
                      case rel => exact ⟨by rw [hcb.out], HC.out⟩
              · have hm3' : (m.do_ != 3) = false := by simpa using hm3
                have hcb := Lib.hid (clashB_mark1 (m := m) (n := n) hm3)
                refine wp_region_in (Held2 W1 b6 b8 n m) (by kernel_rfl) (by kernel_rfl) ⟨below_drew1 (Below.refl _ _), g0, g1, g2, g3, g4, g5, g6, i0, i1, i2, i3, i4, i5, i6⟩ ?_
                clear g0 g1 g2 g3 g4 g5 g6 i0 i1 i2 i3 i4 i5 i6
                go_simp
                repeat (refine wpQuiet_step (fun K hK => ?_); go_simp; first | (refine hK _ ?_; clear hK K) | (apply Exists.intro; refine ⟨fun W hC => ?_, hK _ ?_⟩; (first | rfl | ((with_reducible refine (hist_of m _).mono ?_); rintro e w' ⟨rfl, hb⟩; exact ⟨rfl, hC.step hb⟩) | ((with_reducible refine (hist_of n _).mono ?_); rintro e w' ⟨rfl, hb⟩; exact ⟨rfl, hC.step hb⟩) | (obtain ⟨h0, h1, h2, h3, h4, h5, h6, h7, h8, h9, h10, h11, h12, h13, h14⟩ := hC; go_simp; rfl)); clear hK K))
                refine wpQuiet_nil ?_
                intro W hC
                have HC := Lib.hid hC.below
                clear hC
                go_wp2
                go_meet
                case rel => exact ⟨by rw [hcb.out], HC.out⟩
            case rest =>
              obtain ⟨rfl, hB2⟩ := hcut
              clear g0 g1 g2 g3 g4 g5 g6 i0 i1 i2 i3 i4 i5 i6
              cases hcb : clashB m n
              · go_wp2
                exact ⟨⟨j + 1, by omega, rfl, rfl, rfl, by go_num, below_step hB1 hB2, Lib.hid (by rw [Hci.out, Hdm.out, clashIn, if_neg (by rw [hcb]; exact Bool.false_ne_true)])⟩, by simp [intOf]; omega⟩
              · go_wp2
                try rw [Exit.noGoto_ret]
                go_ret3
                refine ⟨j, k, true, rfl, ?_, below_step hB0 (below_step hB1 hB2)⟩
                have h1 : clashIn n (l.take k) 0 = some j := by rw [Hci.out, Hdm.out, clashIn, if_pos hcb]
                have h2 : clashFrom [] l = some (j, k) := by
                  rw [Hcl.out, Hd.out, clashFrom, h1]
                  simp
                  omega
                simp [clashOf, h2]
          · have hjk' : j = k := by omega
            have h1 : clashIn n (l.take k) 0 = none := by
              rw [Hci.out, hjk', List.drop_of_length_le (List.length_take_le _ _)]
              rfl
            have H1 := Lib.hid h1
            clear h1 hjk' g0 g1 g2 g3 g4 g5 g6
            go_wp2
            exact ⟨⟨k + 1, by omega, rfl, rfl, rfl, by go_num, below_step hB0 hB, Lib.hid (by rw [Hcl.out, Hd.out, clashFrom, H1.out, Htk.out])⟩, by simp [intOf]; omega⟩
    · have hkl : k = l.length := by omega
      have h2 : clashFrom [] l = none := by
        rw [Hcl.out, hkl, List.drop_of_length_le (Nat.le_refl _)]
        rfl
      have H2 := Lib.hid h2
      clear h2 hkl
      go_wp2
      try rw [Exit.noGoto_ret]
      go_ret3
      exact ⟨0, 0, false, rfl, by simp [clashOf, H2.out], hB⟩

set_option maxRecDepth 100000 in
set_option maxHeartbeats 400000 in
theorem hist_formed (l : List News) (A : Option Addr) (c : Nat) (srcs : Int) (w : World) (hr : NewsRow w A l.length l) (hc : l.length ≤ c) :
    Calls Try.prog 84 #[.slice A l.length c, .int .i64 srcs] w fun e w' => e = .returned (.bool (formedB l srcs)) ∧ Below w.heap.size w w' := by
  have Hr := Lib.hid hr
  clear hr
  unfold formedB
  cases hp : plainB l srcs
  · go_enter Try.func84, Try.ntmps84
    go_wp2_with (first | (go_at_call 98; refine (hist_plain l A c srcs _ Hr.out).mono ?_; rintro e w' ⟨rfl, hb⟩))
    go_ret
    exact ⟨(by first | rfl | (simp; done) | (simp [*]; done)), (by repeat (first | exact Below.refl _ _ | assumption | apply below_alloc | apply below_drew1 | apply pw_below_drewN | refine below_step ?_ (by assumption)))⟩
  · go_enter Try.func84, Try.ntmps84
    go_wp2_with (first | (go_at_call 98; refine (hist_plain l A c srcs _ Hr.out).mono ?_; rintro e w' ⟨rfl, hb⟩) | (go_at_call 99; refine (hist_clash l A c _ (news_later Hr.out (by assumption)) hc).mono ?_; rintro e w2 ⟨i, k, b, rfl, hcl, hb2⟩))
    go_ret
    exact ⟨by rw [← hcl]; rfl, (by repeat (first | exact Below.refl _ _ | assumption | apply below_alloc | apply below_drew1 | apply pw_below_drewN | refine below_step ?_ (by assumption)))⟩

set_option maxRecDepth 100000 in
set_option maxHeartbeats 400000 in
theorem hist_check (l : List News) (A : Option Addr) (c : Nat) (srcs : Int) (w : World) (hr : NewsRow w A l.length l) (hc : l.length ≤ c) :
    Calls Try.prog 63 #[.slice A l.length c, .int .i64 srcs] w fun e w' => e = .returned (.int .i64 (if formedB l srcs then 0 else 2)) ∧ Below w.heap.size w w' := by
  cases hp : formedB l srcs
  all_goals
    go_enter Try.func63, Try.ntmps63
    go_wp2_with (first | (go_at_call 84; refine (hist_formed l A c srcs _ hr hc).mono ?_; rintro e w' ⟨rfl, hb⟩))
    go_ret
    exact ⟨(by first | rfl | (simp; done) | (simp [*]; done)), (by repeat (first | exact Below.refl _ _ | assumption | apply below_alloc | apply below_drew1 | apply pw_below_drewN | refine below_step ?_ (by assumption)))⟩
end Go.Proofs.Ytfmojgdomficlaa
