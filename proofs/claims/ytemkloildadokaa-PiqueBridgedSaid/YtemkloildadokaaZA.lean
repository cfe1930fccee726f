/-
  Texts of one hand, laid together: Region, Kit, Mem, Own, Ord, Flow, Maps, Iter, Fresh, SetK, Grow.
-/
import Derived.StillTail
import Derived.Deep.Quiet
import Derived.Test.YtemkloildadokaaProg
import Derived.Test.YtemkloildadokaaWEqStruct
import Derived.WalkSpells
import Derived.WalkLawsBesides
import Derived.Deep.QuietTactic
import Derived.BigQuiet
import Derived.Lib.Hide
import Derived.StillTailTactics
import Derived.Deep.RegionWith
import Derived.RegionCalls
import Derived.Deep.LoopGhost
import Derived.Deep.DeepCutAuto
import Derived.Deep.RegionHeld3
import Derived.Below
import Derived.Tactics
import Derived.KernelRfl
import Derived.MapKept
import Derived.RangeFuncNested
import Derived.RangeFuncBound
import Derived.RangeFuncCalls
import Derived.RangeFuncLeaves
import Derived.Shelf.Abstract
import Derived.Shelf.RegionOpen
import Derived.WalkKit
import Derived.OwnWalkIn
import Derived.TacticsInMore
import Derived.LoopNIn
import Derived.LoopIn
import Derived.Maps.OwnIn
set_option linter.unusedVariables false
/-! A region that draws its order: a head that only reads (or calls quietly, staying in a class of worlds), then a tail in one forced order that may write. -/
namespace Go.Proofs.Ytemkloildadokaa
open Go
section
variable {P : Program} {ops : Array Oper} {md : Region.Mode} {C : World → Prop}

def wpAnyLQ (P : Program) (md : Region.Mode) (ops : Array Oper) (C : World → Prop) (n : Nat) (L : Array Bool → Act → Prop) : Nat → Array Bool → Act → Prop
  | 0, listed, a => L listed a
  | f + 1, listed, a =>
    Region.ready md ops listed ≠ [] ∧ ∀ i ∈ Region.ready md ops listed, i < n ∧ qOp P ops C i (wpAnyLQ P md ops C n L f (listed.setIfInBounds i true)) a

theorem wpAny_of_headQ {n g : Nat} {L : Array Bool → Act → Prop} {Q' : Exit → Act → World → Prop} (hL : ∀ listed a, L listed a → ∀ w, C w → wpAny P md ops Q' g listed a w) :
    ∀ (f : Nat) (listed : Array Bool) (a : Act) (w : World), C w → wpAnyLQ P md ops C n L f listed a → wpAny P md ops Q' (f + g) listed a w
  | 0, listed, a, w, hw, h => by rw [Nat.zero_add]; exact hL _ _ h w hw
  | f + 1, listed, a, w, hw, h => by
    rw [show f + 1 + g = (f + g) + 1 by omega]
    exact ⟨fun h0 => absurd h0 h.1, fun i hi => wpOp_of_qOp hw (fun a' w' hw' h' => wpAny_of_headQ hL f _ a' w' hw' h') (h.2 i hi).2⟩

theorem wpAnyLQ_first {n i : Nat} {oi : Oper} {v : Value} {L : Array Bool → Act → Prop} (hi : ops[i]? = some oi) (hsel : ∀ (j : Nat) (o : Oper) cs b, ops[j]? = some o → o.op ≠ .select cs b)
    (hs : Region.sinkB md ops n = true) (hc : Region.chainB md ops n = true) (hn : n < ops.size) (hin : i < n)
    (hdone : ∀ listed a, L listed a → ∀ j ∈ Region.ready md ops listed, n ≤ j) :
    ∀ (f : Nat) (listed : Array Bool) (a : Act), HeadInv md ops n listed →
      (∀ j oj, ops[j]? = some oj → j ≠ i → listed.getD j true = false → (∀ e ∈ oj.after, Region.binds md e = true → e.on ≠ i) → oi.apart ops oj = true) →
      i ∈ Region.ready md ops listed → YieldsIn P ops C oi v a →
      wpAnyLQ P md ops C n L f (listed.setIfInBounds i true) (a.put oi.dst v) → wpAnyLQ P md ops C n L (f + 1) listed a := by
  intro f
  induction f with
  | zero =>
    intro listed a inv _ hr hy H
    have hun := (mem_ready.1 hr).1
    refine ⟨fun h => (by rw [h] at hr; cases hr), fun j hj => ?_⟩
    have hjn : j < n := by
      rcases Nat.lt_or_ge j n with h | h
      · exact h
      · exact absurd hj (tail_waits hs hc hn inv _ i rfl hin hun j h)
    refine ⟨hjn, ?_⟩
    by_cases hji : j = i
    · subst hji; exact hy.qOp hi H
    · have := hdone _ _ H j (ready_mono hj hji)
      omega
  | succ f ih =>
    intro listed a inv hfree hr hy H
    have hun := (mem_ready.1 hr).1
    refine ⟨fun h => (by rw [h] at hr; cases hr), fun j hj => ?_⟩
    have hjn : j < n := by
      rcases Nat.lt_or_ge j n with h | h
      · exact h
      · exact absurd hj (tail_waits hs hc hn inv _ i rfl hin hun j h)
    refine ⟨hjn, ?_⟩
    by_cases hji : j = i
    · subst hji; exact hy.qOp hi H
    · have h1 := (H.2 j (ready_mono hj hji)).2
      obtain ⟨hjun, oj, hoj, hall⟩ := mem_ready.1 hj
      have hnot : ∀ e ∈ oj.after, Region.binds md e = true → e.on ≠ i := fun e he hb heq => by
        have h1 := hall e he hb
        rw [heq, getD_both hun] at h1
        cases h1
      have h2 := qOp_put hoj (hfree j oj hoj hji hjun hnot) (fun cs b => hsel i oi cs b hi) (fun cs b => hsel j oj cs b hoj) hy h1
      have hfree' : ∀ k ok, ops[k]? = some ok → k ≠ i → (listed.setIfInBounds j true).getD k true = false →
          (∀ e ∈ ok.after, Region.binds md e = true → e.on ≠ i) → oi.apart ops ok = true := fun k ok hk hki hun hno => by
        refine hfree k ok hk hki ?_ hno
        by_cases hjk : j = k
        · subst hjk; exact hjun
        · rw [getD_set_ne true hjk] at hun; exact hun
      refine qOp_mono (fun a' h3 => ih (listed.setIfInBounds j true) a' (inv.set hj hjn) hfree' (ready_mono hr (Ne.symm hji)) h3.1 ?_) h2
      rw [Array.setIfInBounds_comm _ _ hji]
      exact h3.2

theorem wpAnyLQ_lex {n g : Nat} {Lq : Act → Prop} (hsel : Region.noSelect ops = true) (hs : Region.sinkB md ops n = true) (hc : Region.chainB md ops n = true) (hn : n < ops.size) :
    ∀ (l : List Oper) (k : Nat) (listed : Array Bool) (a : Act), (∀ j, j < l.length → l[j]? = ops[k + j]?) → k + l.length = n → HeadInv md ops n listed →
    Region.lexHead md ops g l.length k listed = true → wpQuiet P ops C Lq l a →
    wpAnyLQ P md ops C n (fun listed' a' => Region.seqB md ops g n listed' = true ∧ Lq a') l.length listed a
  | [], k, listed, a, _, hk, _, hB, h => by
    have : k = n := by simpa using hk
    subst this
    exact ⟨by simpa [Region.lexHead] using hB, h⟩
  | o :: l, k, listed, a, hl, hk, inv, hB, h => by
    have h0 : ops[k]? = some o := by simpa using (hl 0 (by simp)).symm
    simp only [List.length_cons, Region.lexHead, Bool.and_eq_true] at hB
    obtain ⟨⟨hr, hf⟩, hB'⟩ := hB
    have hkn : k < n := by simp only [List.length_cons] at hk; omega
    have hr' : k ∈ Region.ready md ops listed := by simpa using hr
    have hst : qOp P ops C k (wpQuiet P ops C Lq l) a := by unfold qOp; simp only [h0]; exact h
    obtain ⟨v, hy, hK⟩ := yieldsIn_of_qOp h0 hst
    exact wpAnyLQ_first h0 (Region.noSelect_spec hsel) hs hc hn hkn (fun listed' a' hL => seqB_ready hL.1) l.length listed a inv (Region.free_spec h0 hf) hr' hy
      (wpAnyLQ_lex hsel hs hc hn l (k + 1) _ _ (fun j hj => by have := hl (j + 1) (by simp; omega); simpa [Nat.add_assoc, Nat.add_comm 1 j] using this) (by simp only [List.length_cons] at hk; omega) (inv.set hr' hkn) hB' hK)

/-- A quiet head of n operations in the class C, then the rest in the text's order from every world of the class. -/
theorem wp_region_quiet_tail {id : Nat} {Q : Exit → Act → World → Prop} {a : Act} {w : World} {l : List Oper} (n : Nat) (C : World → Prop) (hm : P.follows .mixedOrders = true) (hB : Region.lexTailB .any l.toArray n = true) (hC : C w.drew)
    (h : wpQuiet P l.toArray C (fun a' => ∀ w', C w' → wpList P l.toArray Q (l.drop n) a' w') (l.take n) a) : (Code.region id l.toArray true).wp P Q a w := by
  simp only [Region.lexTailB, Bool.and_eq_true, decide_eq_true_eq] at hB
  obtain ⟨⟨⟨⟨hsel, hn⟩, hs⟩, hc⟩, hlex⟩ := hB
  have hn' : n < l.length := by simpa using hn
  have htl : (l.take n).length = n := by simp; omega
  have hdl : (l.drop n).length = l.toArray.size - n := by simp
  have inv0 : HeadInv .any l.toArray n (Array.replicate l.toArray.size false) :=
    ⟨by simp, fun j oj _ hl => (by rw [getD_replicate_false] at hl; cases hl), fun t _ ht => getD_in (by simpa using ht) (getD_replicate_false _ _)⟩
  have H := wpAnyLQ_lex (md := .any) (C := C) (g := l.toArray.size - n) hsel hs hc hn (l.take n) 0 _ a (fun j hj => by
    have hj' : j < n := by rw [htl] at hj; exact hj
    simp [hj']) (by simpa using htl) inv0 (by rw [htl]; exact hlex) h
  refine wp_region_any hm ?_
  have := wpAny_of_headQ (Q' := Q) (g := l.toArray.size - n) (fun listed a' hL w' hw' => by
    have := wpAny_of_seq (md := .any) (Q' := Q) (l.drop n) n listed a' w' (fun j => by simp [List.getElem?_drop]) (by rw [hdl]; exact hL.1) (hL.2 w' hw')
    rwa [hdl] at this) _ _ _ _ hC H
  rw [htl, show n + (l.toArray.size - n) = l.toArray.size by omega] at this
  exact this
end
end Go.Proofs.Ytemkloildadokaa
set_option linter.unusedVariables false
set_option linter.unusedSimpArgs false
/-! Small laws that the walks of this seat use. -/
namespace Go.Proofs.Ytemkloildadokaa
open Go.RowKit Go.Proofs.YtemkloildadokaaW.PrintWords
theorem bcell {W w1 : World} (hb : Below W.heap.size W w1) : (∀ b o, b < W.heap.size → w1.cell? ⟨b, o, none⟩ = W.cell? ⟨b, o, none⟩) ∧ (∀ b o, b < W.heap.size → w1.frozen? ⟨b, o, none⟩ = W.frozen? ⟨b, o, none⟩) :=
  ⟨fun b o h => hb.cell (p := ⟨b, o, none⟩) h, fun b o h => hb.frozen (p := ⟨b, o, none⟩) h⟩

/-- A region that draws its order, walked in the text's order: every operation yields one value in every world of the class C, and stays in it. -/
theorem wp_region_in {P : Program} {id : Nat} {ops : Array Oper} {Q : Exit → Act → World → Prop} {a : Act} {w : World} (C : World → Prop) (hm : P.follows .mixedOrders = true) (hB : Region.lexB .any ops = true)
    (hC : C w.drew) (h : wpQuiet P ops C (fun a' => ∀ w', C w' → Q .normal a' w') ops.toList a) : (Code.region id ops true).wp P Q a w :=
  wp_region_quiet (C := C) hm hB hC h
theorem heap_alloc_lt {b : Nat} (w : World) (o : Obj) (h : b < w.heap.size) : (w.alloc o).heap[b]? = w.heap[b]? := by
  unfold World.alloc
  simp only
  rw [Array.getElem?_push_lt h, Array.getElem?_eq_getElem h]
theorem alloc_old {w : World} {b : Nat} {x : Obj} (h : w.heap[b]? = some x) (o : Obj) : (w.alloc o).heap[b]? = some x := by
  have hb : b < w.heap.size := (Array.getElem?_eq_some_iff.1 h).1
  unfold World.alloc
  simp only
  rw [Array.getElem?_push_lt hb]
  rw [Array.getElem?_eq_getElem hb] at h
  exact h
end Go.Proofs.Ytemkloildadokaa
set_option linter.unusedVariables false
set_option linter.unusedSimpArgs false
/-! Generic laws of rows. -/
namespace Go.Proofs.Ytemkloildadokaa
open Go.RowKit Go.Proofs.YtemkloildadokaaW.PrintWords
theorem row_at {α : Type} {d : Kd α} {w : World} {A : Option Addr} {n : Nat} {l : List α} (h : Kd.C d w A n l) (k : Nat) (hk : k < n) :
    ∃ x c ad, l.drop k = x :: l.drop (k + 1) ∧ l.take (k + 1) = l.take k ++ [x] ∧ l[k]? = some x ∧ A = some ad ∧ d.K w x c ∧ ∀ j u, c[j]? = some u → w.cell? (ad.add (k * d.sz + j)) = some u := by
  obtain ⟨h1, h2, h3⟩ := h
  obtain ⟨ad, e, hc⟩ := h3 (by omega)
  have hl : k < l.length := by omega
  obtain ⟨c, hs, hr, hcell⟩ := hc k l[k] (List.getElem?_eq_getElem hl)
  exact ⟨l[k], c, ad, List.drop_eq_getElem_cons hl, by rw [List.take_succ_eq_append_getElem hl], List.getElem?_eq_getElem hl, e, hr, hcell⟩
theorem cell_later' {w wr : World} (hB : Below w.heap.size w wr) {b o : Nat} {v : Value} (h : w.cell? ⟨b, o, none⟩ = some v) : wr.cell? ⟨b, o, none⟩ = some v := (hB.cell (World.block_lt_of_cell? w _ h)).trans h
theorem heap_later {w wr : World} (hB : Below w.heap.size w wr) {b : Nat} {o : Obj} (h : w.heap[b]? = some o) : wr.heap[b]? = some o := (hB.block b (Array.getElem?_eq_some_iff.1 h).1).trans h
end Go.Proofs.Ytemkloildadokaa
set_option linter.unusedVariables false
set_option linter.unusedSimpArgs false
/-! Generic laws of rows. -/
namespace Go.Proofs.Ytemkloildadokaa
open Go.RowKit Go.Proofs.YtemkloildadokaaW.PrintWords
/-- A slice of the call's own (made from the block number base on). -/
abbrev Own {α : Type} (d : Kd α) (e : Nat) (w : World) (base : Nat) (v : Value) (xs : List α) : Prop := Kd.R d e w base (fun _ => True) v xs
theorem own_reads' {α : Type} {d : Kd α} {e base : Nat} {w : World} {v : Value} {xs : List α} (h : Own d e w base v xs) : ∃ A c, v = .slice A xs.length c ∧ xs.length ≤ c ∧ d.C w A xs.length xs := Kd.R_reads h
/-- A literal of one element. -/
theorem own_one {α : Type} (d : Kd α) (e : Nat) (W : World) (base : Nat) (hb : base ≤ W.heap.size) (x : α) (cs : List Value) (hM : ∀ w, d.M w base (fun _ => False) x cs) :
    Own d e (W.alloc (.cells cs.toArray e)) base (.slice (some ⟨W.heap.size, 0, none⟩) 1 1) [x] := by
  have hl : cs.length = d.sz := d.K_len (d.K_of_M (hM W))
  refine ⟨fun _ _ => trivial, cs, ?_, ?_⟩
  · have h2 := World.ownsRow_lit (base := base) (e := e) (size := d.sz) W cs.toArray 1 hb (by simp [maxLen]) (by simpa using hl)
    simpa using h2
  · refine ⟨by simpa using hl, fun j p hj => ?_⟩
    rcases j with _ | j
    · have : x = p := by simpa using hj
      subst this
      have e1 : (cs.drop (0 * d.sz)).take d.sz = cs := by rw [Nat.zero_mul, List.drop_zero, ← hl, List.take_length]
      rw [e1]
      exact d.M_mono (fun _ h => h.elim) (hM _)
    · simp at hj
theorem int_at {w : World} {A : Option Addr} {n : Nat} {l : List Int} (h : Kd.C (Kd.int .i64) w A n l) (k : Nat) (hk : k < n) :
    ∃ x ad, l.drop k = x :: l.drop (k + 1) ∧ l.take (k + 1) = l.take k ++ [x] ∧ l[k]? = some x ∧ A = some ad ∧ w.cell? (ad.add k) = some (.int .i64 x) := by
  obtain ⟨x, c, ad, h1, h2, h3, h4, h5, h6⟩ := row_at h k hk
  have hc : c = [.int .i64 x] := h5
  subst hc
  have h7 := h6 0 _ rfl
  simp only [show (Kd.int .i64).sz = 1 from rfl, Nat.mul_one, Nat.add_zero] at h7
  exact ⟨x, ad, h1, h2, h3, h4, h7⟩
end Go.Proofs.Ytemkloildadokaa
set_option linter.unusedVariables false
set_option linter.unusedSimpArgs false
/-! A region that draws its order, walked once in an order that is written down: what is calm in a class of worlds (one value in every world of it; the world is let alone, or a callee makes memory of its own) may be taken at any time; all else only where nothing else can come up; behind it the class may be narrowed. -/
namespace Go.Proofs.Ytemkloildadokaa
open Go Go.RowKit
section
variable {P : Program} {md : Region.Mode} {ops : Array Oper} {Q : Exit → Act → World → Prop}

/-- A class of worlds that a callee's own memory does not lead out of. -/
def Stable (C : World → Prop) : Prop := ∀ w w', C w → Below w.heap.size w w' → C w'

/-- A world of the class (nothing looks into it till it is opened). -/
structure In (C : World → Prop) (w : World) : Prop where
  out : C w
/-- What is asked of one operation behind its run in the world w: it yields v and lets the world alone, or it is a call that hands v back and only makes memory. -/
def calmUpon (P : Program) (w : World) (v : Value) : Result Next → Prop
  | .ok (.value u) w' => w' = w ∧ u = v
  | .ok .skip w' => w' = w ∧ v = undef
  | .ok (.enter f args) w' => w' = w ∧ Calls P f args w (fun e w'' => e = .returned v ∧ Below w.heap.size w w'')
  | _ => False
def calmAt (P : Program) (o : Oper) (a : Act) (w : World) (v : Value) : Prop := calmUpon P w v ((execOp a.eval o).run P w)
attribute [go_sem] calmAt calmUpon

def YieldsC (P : Program) (ops : Array Oper) (C : World → Prop) (o : Oper) (v : Value) (a : Act) : Prop :=
  (Region.wanted o (yielded ops a.tmps) = true ∧ ∀ w, C w → calmAt P o a w v) ∨ (Region.wanted o (yielded ops a.tmps) = false ∧ v = undef)

theorem YieldsC.same {C : World → Prop} {o : Oper} {v : Value} {a a' : Act} (hy : YieldsC P ops C o v a) (he : execOp a'.eval o = execOp a.eval o) (hw : Region.wanted o (yielded ops a'.tmps) = Region.wanted o (yielded ops a.tmps)) : YieldsC P ops C o v a' := by
  unfold YieldsC calmAt at *
  rw [he, hw]
  exact hy
theorem YieldsC.narrow {C C' : World → Prop} {o : Oper} {v : Value} {a : Act} (hy : YieldsC P ops C o v a) (h : ∀ w, C' w → C w) : YieldsC P ops C' o v a :=
  hy.imp (fun ⟨h1, h2⟩ => ⟨h1, fun w hw => h2 w (h w hw)⟩) id
theorem YieldsC.wpOp {C : World → Prop} {i : Nat} {o : Oper} {v : Value} {a : Act} (hi : ops[i]? = some o) (hst : Stable C) (hy : YieldsC P ops C o v a) {K : Act → World → Prop} {w : World} (hw : C w) (h : ∀ w', C w' → K (a.put o.dst v) w') : wpOp P ops Q i K a w := by
  unfold Go.wpOp
  simp only [hi]
  rcases hy with ⟨h1, h2⟩ | ⟨h1, rfl⟩
  · simp only [h1, if_true]
    left
    have h3 := h2 w hw
    unfold calmAt at h3
    unfold Oper.wp
    generalize (execOp a.eval o).run P w = r at *
    cases r with
    | ok n w' =>
      cases n <;> simp only [calmUpon] at h3 <;> simp only [Oper.upon]
      case value u =>
        obtain ⟨e1, e2⟩ := h3
        rw [e1, e2]
        exact h _ hw
      case skip =>
        obtain ⟨e1, e2⟩ := h3
        rw [e1, ← e2]
        exact h _ hw
      case enter f args =>
        obtain ⟨e1, hc⟩ := h3
        rw [e1]
        exact hc.mono fun e w'' ⟨he, hb⟩ => by subst he; exact h _ (hst _ _ hw hb)
    | halt x w' => simp only [calmUpon] at h3
  · simp only [h1, Bool.false_eq_true, if_false]
    exact h _ hw
/-- What is apart from a calm operation does not see whether that one has been. -/
theorem wpOp_apart {C : World → Prop} {j : Nat} {oi oj : Oper} {v : Value} (hj : ops[j]? = some oj) (hap : oi.apart ops oj = true) (hsi : ∀ cs b, oi.op ≠ .select cs b) (hsj : ∀ cs b, oj.op ≠ .select cs b)
    (hQ : ∀ c a w, Q (.panic c) (a.put oi.dst v) w → Q (.panic c) a w) {K : Act → World → Prop} {a : Act} {w : World} (hy : YieldsC P ops C oi v a) (h : wpOp P ops Q j K (a.put oi.dst v) w) :
    wpOp P ops Q j (fun a' w' => YieldsC P ops C oi v a' ∧ K (a'.put oi.dst v) w') a w := by
  obtain ⟨h1, h2, h3⟩ := Oper.apart_spec hap
  have kp : ∀ u, YieldsC P ops C oi v (a.put oj.dst u) := fun u => hy.same (execOp_put oi hsi a oj.dst u h3) (wanted_put oi a oj.dst u h3)
  have kd : ∀ d u, YieldsC P ops C oi v (Act.put { a with defers := d :: a.defers } oj.dst u) := fun d u =>
    (hy.same (a' := { a with defers := d :: a.defers }) rfl rfl).same (execOp_put oi hsi _ oj.dst u h3) (wanted_put oi _ oj.dst u h3)
  have pc : ∀ (b : Act) (u : Value), (b.put oi.dst v).put oj.dst u = (b.put oj.dst u).put oi.dst v := fun b u => Act.put_comm b v u h2
  unfold wpOp at *
  simp only [hj] at *
  rw [wanted_put oj a oi.dst v h1] at h
  by_cases hw : Region.wanted oj (yielded ops a.tmps) = true
  · simp only [hw, if_true] at h ⊢
    rcases h with h | ⟨hasks, hlets⟩
    · left
      unfold Oper.wp at *
      rw [execOp_put oj hsj a oi.dst v h1] at h
      generalize (execOp a.eval oj).run P w = r at *
      cases r with
      | ok n w' =>
        cases n <;> simp only [Oper.upon] at h ⊢
        case value u => exact ⟨kp u, by rw [← pc]; exact h⟩
        case skip => exact ⟨kp _, by rw [← pc]; exact h⟩
        case defer d =>
          refine ⟨kd d _, ?_⟩
          rw [← pc, ← Act.put_defers]
          exact h
        case enter f args =>
          refine Calls.mono h fun e w'' he => ?_
          cases e with
          | returned u => exact ⟨kp u, by rw [← pc]; exact he⟩
          | panicked c => exact hQ _ _ _ he
          | outgrown => exact he
        case row row args => exact Rows.mono h fun u w'' he => ⟨kp u, by rw [← pc]; exact he⟩
      | halt x w' =>
        cases x <;> simp only [Oper.upon] at h ⊢
        case panic u => exact hQ _ _ _ h
    · exact .inr ⟨by unfold Oper.asks at *; rw [execOp_put oj hsj a oi.dst v h1] at hasks; exact hasks, hlets⟩
  · simp only [hw] at h ⊢
    exact ⟨kp _, by rw [← pc]; exact h⟩

/-- Whatever order is picked from here on, from every world of the class. -/
def wpAnyX (P : Program) (md : Region.Mode) (ops : Array Oper) (Q : Exit → Act → World → Prop) : Nat → Array Bool → (World → Prop) → Act → Prop
  | 0, listed, C, a => Region.ready md ops listed = [] ∧ ∀ w, C w → Q .normal a w
  | f + 1, listed, C, a => (Region.ready md ops listed = [] → ∀ w, C w → Q .normal a w) ∧
    ∀ i ∈ Region.ready md ops listed, ∀ w, C w → wpOp P ops Q i (fun a' w' => ∃ C' : World → Prop, Stable C' ∧ (∀ W, C' W → C W) ∧ C' w' ∧ wpAnyX P md ops Q f (listed.setIfInBounds i true) C' a') a w
theorem wpAnyX_sound : ∀ (f : Nat) (listed : Array Bool) (C : World → Prop) (a : Act) (w : World), C w → wpAnyX P md ops Q f listed C a → wpAny P md ops Q f listed a w
  | 0, _, _, _, w, hw, h => ⟨h.1, h.2 w hw⟩
  | f + 1, _, _, _, w, hw, h => ⟨fun h0 => h.1 h0 w hw, fun i hi => wpOp_mono (fun a' w' ⟨C', _, _, h3, h4⟩ => wpAnyX_sound f _ C' a' w' h3 h4) (h.2 i hi w hw)⟩
theorem wpAnyX_first {i : Nat} {oi : Oper} {v : Value} (hi : ops[i]? = some oi) (hsel : ∀ (j : Nat) (o : Oper) cs b, ops[j]? = some o → o.op ≠ .select cs b) (hQ : ∀ c a w, Q (.panic c) (a.put oi.dst v) w → Q (.panic c) a w) :
    ∀ (f : Nat) (listed : Array Bool) (C : World → Prop) (a : Act), Stable C →
      (∀ j oj, ops[j]? = some oj → j ≠ i → listed.getD j true = false → (∀ e ∈ oj.after, Region.binds md e = true → e.on ≠ i) → oi.apart ops oj = true) →
      i ∈ Region.ready md ops listed → YieldsC P ops C oi v a → wpAnyX P md ops Q f (listed.setIfInBounds i true) C (a.put oi.dst v) → wpAnyX P md ops Q (f + 1) listed C a
  | 0, listed, C, a, hst, hfree, hr, hy, H => by
    refine ⟨fun h => (by rw [h] at hr; cases hr), fun j hj w hw => ?_⟩
    by_cases hji : j = i
    · subst hji
      exact hy.wpOp hi hst hw fun w' hw' => ⟨C, hst, fun _ h => h, hw', H⟩
    · have := ready_mono hj hji
      rw [H.1] at this
      cases this
  | f + 1, listed, C, a, hst, hfree, hr, hy, H => by
    refine ⟨fun h => (by rw [h] at hr; cases hr), fun j hj w hw => ?_⟩
    by_cases hji : j = i
    · subst hji
      exact hy.wpOp hi hst hw fun w' hw' => ⟨C, hst, fun _ h => h, hw', H⟩
    · have h1 := H.2 j (ready_mono hj hji) w hw
      obtain ⟨hjun, oj, hoj, hall⟩ := mem_ready.1 hj
      have hnot : ∀ e ∈ oj.after, Region.binds md e = true → e.on ≠ i := fun e he hb heq => by
        have h2 := hall e he hb
        have h0 := (mem_ready.1 hr).1
        rw [heq] at h2
        rcases Nat.lt_or_ge i listed.size with h' | h'
        · simp [h'] at h0 h2; rw [h0] at h2; cases h2
        · simp [Array.getElem?_eq_none h'] at h2
      have h2 := wpOp_apart hoj (hfree j oj hoj hji hjun hnot) (fun cs b => hsel i oi cs b hi) (fun cs b => hsel j oj cs b hoj) hQ hy h1
      have hfree' : ∀ k ok, ops[k]? = some ok → k ≠ i → (listed.setIfInBounds j true).getD k true = false → (∀ e ∈ ok.after, Region.binds md e = true → e.on ≠ i) → oi.apart ops ok = true := fun k ok hk hki hun hno => by
        refine hfree k ok hk hki ?_ hno
        by_cases hjk : j = k
        · subst hjk; exact hjun
        · rw [getD_set_ne true hjk] at hun; exact hun
      refine wpOp_mono (fun a' w' h3 => ?_) h2
      obtain ⟨hy', C', k1, k2, k3, k4⟩ := h3
      refine ⟨C', k1, k2, k3, wpAnyX_first hi hsel hQ f (listed.setIfInBounds j true) C' a' k1 hfree' (ready_mono hr (Ne.symm hji)) (hy'.narrow k2) ?_⟩
      rw [Array.setIfInBounds_comm _ _ hji]
      exact k4

/-- The order that is written down: number, operation, calm or alone. -/
def wpOrd (P : Program) (ops : Array Oper) (Q : Exit → Act → World → Prop) : List (Oper × Bool) → (World → Prop) → Act → Prop
  | [], C, a => ∀ w, C w → Q .normal a w
  | (o, true) :: r, C, a => if Region.wanted o (yielded ops a.tmps) = true then ∃ v, (∀ w, C w → calmAt P o a w v) ∧ wpOrd P ops Q r C (a.put o.dst v) else wpOrd P ops Q r C (a.put o.dst undef)
  | (o, false) :: r, C, a => ∀ w, C w → if Region.wanted o (yielded ops a.tmps) = true then Oper.wp P o a w (fun a' w' => ∃ C' : World → Prop, Stable C' ∧ (∀ W, C' W → C W) ∧ C' w' ∧ wpOrd P ops Q r C' a') Q else wpOrd P ops Q r C (a.put o.dst undef)
def ordB (md : Region.Mode) (ops : Array Oper) : List (Nat × Bool) → Array Bool → Bool
  | [], listed => (Region.ready md ops listed).isEmpty
  | (i, true) :: r, listed => Region.free md ops listed i && (Region.ready md ops listed).contains i && ordB md ops r (listed.setIfInBounds i true)
  | (i, false) :: r, listed => (Region.ready md ops listed == [i]) && ordB md ops r (listed.setIfInBounds i true)
def pickOps (l : List Oper) : List (Nat × Bool) → List (Oper × Bool)
  | [] => []
  | (i, b) :: r => match l[i]? with | some o => (o, b) :: pickOps l r | none => []
theorem wpAnyX_ord {l : List Oper} (hs : Region.noSelect l.toArray = true) (hQ : ∀ c a d v w, Q (.panic c) (Act.put a d v) w → Q (.panic c) a w) : ∀ (s : List (Nat × Bool)) (listed : Array Bool) (C : World → Prop) (a : Act), Stable C → ordB md l.toArray s listed = true → wpOrd P l.toArray Q (pickOps l s) C a → wpAnyX P md l.toArray Q s.length listed C a
  | [], listed, C, a, hst, hB, h => ⟨by simpa [ordB] using hB, h⟩
  | (i, b) :: r, listed, C, a, hst, hB, h => by
    cases b with
    | true =>
      simp only [ordB, Bool.and_eq_true] at hB
      obtain ⟨⟨hf, hr⟩, hB'⟩ := hB
      have hr' : i ∈ Region.ready md l.toArray listed := by simpa using hr
      obtain ⟨_, o, ho, _⟩ := mem_ready.1 hr'
      have ho' : l[i]? = some o := by simpa using ho
      simp only [pickOps, ho', wpOrd] at h
      by_cases hw : Region.wanted o (yielded l.toArray a.tmps) = true
      · rw [if_pos hw] at h
        obtain ⟨v, h1, h2⟩ := h
        exact wpAnyX_first ho (Region.noSelect_spec hs) (fun c a w => hQ c a _ _ w) r.length listed C a hst (Region.free_spec ho hf) hr' (.inl ⟨hw, h1⟩) (wpAnyX_ord hs hQ r _ C _ hst hB' h2)
      · rw [if_neg hw] at h
        exact wpAnyX_first ho (Region.noSelect_spec hs) (fun c a w => hQ c a _ _ w) r.length listed C a hst (Region.free_spec ho hf) hr' (.inr ⟨by simpa using hw, rfl⟩) (wpAnyX_ord hs hQ r _ C _ hst hB' h)
    | false =>
      simp only [ordB, Bool.and_eq_true, beq_iff_eq] at hB
      obtain ⟨hr, hB'⟩ := hB
      have hr' : i ∈ Region.ready md l.toArray listed := by rw [hr]; simp
      obtain ⟨_, o, ho, _⟩ := mem_ready.1 hr'
      have ho' : l[i]? = some o := by simpa using ho
      simp only [pickOps, ho', wpOrd] at h
      refine ⟨fun h0 => (by rw [h0] at hr'; cases hr'), fun j hj w hw => ?_⟩
      rw [hr] at hj
      obtain rfl : j = i := by simpa using hj
      have hh := h w hw
      unfold wpOp
      simp only [ho]
      split
      · rename_i hwa
        rw [if_pos hwa] at hh
        exact .inl (Oper.wp_mono (fun a' w' ⟨C', k1, k2, k3, k4⟩ => ⟨C', k1, k2, k3, wpAnyX_ord hs hQ r _ C' a' k1 hB' k4⟩) hh)
      · rename_i hwa
        rw [if_neg hwa] at hh
        exact ⟨C, hst, fun _ h => h, hw, wpAnyX_ord hs hQ r _ C _ hst hB' hh⟩
/-- The walk that is left, shut: nothing unfolds it. -/
structure Ord (P : Program) (ops : Array Oper) (Q : Exit → Act → World → Prop) (l : List (Oper × Bool)) (C : World → Prop) (a : Act) : Prop where
  out : wpOrd P ops Q l C a
/-- A region in an order that is written down ('hB': by the kernel). -/
theorem wp_region_ord {id : Nat} {l : List Oper} {a : Act} {w : World} (s : List (Nat × Bool)) (C : World → Prop) (hst : Stable C) (hm : P.follows .mixedOrders = true)
    (hB : (Region.noSelect l.toArray && ((s.length == l.length) && ordB .any l.toArray s (Array.replicate l.length false))) = true) (hC : C w.drew) (h : Ord P l.toArray (NoPanic Q) (pickOps l s) C a) : (Code.region id l.toArray true).wp P Q a w := by
  refine wp_region_noPanic ?_
  simp only [Bool.and_eq_true, beq_iff_eq] at hB
  obtain ⟨h1, h2, h3⟩ := hB
  refine wp_region_any hm (wpAnyX_sound _ _ C a _ hC ?_)
  have := wpAnyX_ord (md := .any) (Q := NoPanic Q) h1 (fun _ _ _ _ _ h => h) s _ C a hst h3 h.out
  rw [h2] at this
  simpa using this
theorem ord_nil {C : World → Prop} {a : Act} (h : ∀ w, In C w → Q .normal a w) : Ord P ops (NoPanic Q) [] C a := ⟨fun w hw => h w ⟨hw⟩⟩
/-- One calm operation. -/
theorem ord_calm {C : World → Prop} {a : Act} {o : Oper} {r : List (Oper × Bool)} (h : ∀ K : Act → Prop, (∀ a, Ord P ops Q r C a → K a) → if Region.wanted o (yielded ops a.tmps) = true then ∃ v, (∀ w, In C w → calmAt P o a w v) ∧ K (a.put o.dst v) else K (a.put o.dst undef)) : Ord P ops Q ((o, true) :: r) C a := by
  have h1 := h _ fun _ h => h
  refine ⟨?_⟩
  unfold wpOrd
  split
  · rename_i hw
    rw [if_pos hw] at h1
    obtain ⟨v, h2, h3⟩ := h1
    exact ⟨v, fun w hw => h2 w ⟨hw⟩, h3.out⟩
  · rename_i hw
    rw [if_neg hw] at h1
    exact h1.out
/-- One that comes up alone. -/
theorem ord_alone {C : World → Prop} {a : Act} {o : Oper} {r : List (Oper × Bool)} (hwa : Region.wanted o (yielded ops a.tmps) = true)
    (h : ∀ (w : World), In C w → ∀ K : Act → World → Prop, Shut (∀ a' w' (C' : World → Prop), Stable C' → (∀ W, C' W → C W) → C' w' → Ord P ops Q r C' a' → K a' w') → if Region.wanted o (yielded ops a.tmps) = true then Oper.wp P o a w K Q else K (a.put o.dst undef) w) : Ord P ops Q ((o, false) :: r) C a := by
  refine ⟨fun w hw => ?_⟩
  rw [if_pos hwa]
  have := h w ⟨hw⟩ (fun a' w' => ∃ C' : World → Prop, Stable C' ∧ (∀ W, C' W → C W) ∧ C' w' ∧ wpOrd P ops Q r C' a') (fun a' w' C' k1 k2 k3 k4 => ⟨C', k1, k2, k3, k4.out⟩)
  rwa [if_pos hwa] at this
end
end Go.Proofs.Ytemkloildadokaa
set_option linter.unusedVariables false
set_option linter.unusedSimpArgs false
/-! A region that draws its order, walked once in an order that is written down, with two classes of worlds: C is wide (what is calm in it may be taken at any time, ahead of what changes the state too), D says what is known now. Groups: what makes memory of its own may come up together, in any order. -/
namespace Go.Proofs.Ytemkloildadokaa
open Go Go.RowKit
section
variable {P : Program} {md : Region.Mode} {ops : Array Oper} {Q : Exit → Act → World → Prop} {E : Nat → Bool}

/-- What is asked of an operation of a group: its value satisfies V, and it only makes memory. -/
def makesUpon (P : Program) (w : World) (V : Value → World → Prop) : Result Next → Prop
  | .ok (.value u) w' => Below w.heap.size w w' ∧ V u w'
  | .ok (.enter f args) w' => Below w.heap.size w w' ∧ Calls P f args w' (fun e w'' => ∃ u, e = .returned u ∧ Below w.heap.size w' w'' ∧ V u w'')
  | _ => False
def makesAt (P : Program) (o : Oper) (a : Act) (w : World) (V : Value → World → Prop) : Prop := makesUpon P w V ((execOp a.eval o).run P w)
attribute [go_sem] makesAt makesUpon

theorem YieldsC.wpOpD {C D : World → Prop} {i : Nat} {o : Oper} {v : Value} {a : Act} (hi : ops[i]? = some o) (hst : Stable D) (hDC : ∀ w, D w → C w) (hy : YieldsC P ops C o v a) {K : Act → World → Prop} {w : World} (hw : D w) (h : ∀ w', D w' → K (a.put o.dst v) w') : Go.wpOp P ops Q i K a w := by
  unfold Go.wpOp
  simp only [hi]
  rcases hy with ⟨h1, h2⟩ | ⟨h1, rfl⟩
  · simp only [h1, if_true]
    left
    have h3 := h2 w (hDC w hw)
    unfold calmAt at h3
    unfold Oper.wp
    generalize (execOp a.eval o).run P w = r at *
    cases r with
    | ok n w' =>
      cases n <;> simp only [calmUpon] at h3 <;> simp only [Oper.upon]
      case value u =>
        obtain ⟨e1, e2⟩ := h3
        rw [e1, e2]
        exact h _ hw
      case skip =>
        obtain ⟨e1, e2⟩ := h3
        rw [e1, ← e2]
        exact h _ hw
      case enter f args =>
        obtain ⟨e1, hc⟩ := h3
        rw [e1]
        exact hc.mono fun e w'' ⟨he, hb⟩ => by subst he; exact h _ (hst _ _ hw hb)
    | halt x w' => simp only [calmUpon] at h3
  · simp only [h1, Bool.false_eq_true, if_false]
    exact h _ hw

/-- Number j waits, through others, for number k. -/
def anc (md : Region.Mode) (ops : Array Oper) : Nat → Nat → Nat → Bool
  | 0, _, _ => false
  | f + 1, j, k => match ops[j]? with
    | some o => o.after.any fun e => Region.binds md e && (e.on == k || anc md ops f e.on k)
    | none => false
def Down (md : Region.Mode) (ops : Array Oper) (listed : Array Bool) : Prop := ∀ (j : Nat) (o : Oper), ops[j]? = some o → listed.getD j false = true → ∀ e ∈ o.after, Region.binds md e = true → listed.getD e.on false = true
theorem anc_spec {listed : Array Bool} (hd : Down md ops listed) {k : Nat} : ∀ (f j : Nat), anc md ops f j k = true → (∀ o, ops[j]? = some o → ∀ e ∈ o.after, Region.binds md e = true → listed.getD e.on false = true) → listed.getD k false = true
  | 0, _, h, _ => by cases h
  | f + 1, j, h, hl => by
    unfold anc at h
    cases ho : ops[j]? with
    | none => rw [ho] at h; cases h
    | some o =>
      rw [ho] at h
      obtain ⟨e, he, hb⟩ := Array.any_eq_true'.1 h
      simp only [Bool.and_eq_true, Bool.or_eq_true, beq_iff_eq] at hb
      have h1 := hl o ho e he hb.1
      rcases hb.2 with h2 | h2
      · rw [← h2]; exact h1
      · exact anc_spec hd f e.on h2 (fun o' ho' => hd e.on o' ho' h1)
theorem Down.set {listed : Array Bool} (h : Down md ops listed) {i : Nat} (hr : i ∈ Region.ready md ops listed) : Down md ops (listed.setIfInBounds i true) := fun j o ho hj e he hb => by
  by_cases hji : i = j
  · subst hji
    obtain ⟨_, o', ho', hall⟩ := mem_ready.1 hr
    rw [ho] at ho'
    cases ho'
    exact getD_set_true (hall e he hb)
  · rw [getD_set_ne false hji] at hj
    exact getD_set_true (h j o ho hj e he hb)
/-- Number j waits for all that were taken under a class (E). -/
def FenceE (md : Region.Mode) (ops : Array Oper) (E : Nat → Bool) (j : Nat) (listed : Array Bool) : Prop :=
  ∀ k, E k = true → listed.getD k false = true → ∃ f, anc md ops f j k = true
def AllW : World → Prop := fun _ => True
theorem wpOp_apartG {Y : Act → Prop} {j : Nat} {oi oj : Oper} {v : Value} (hj : ops[j]? = some oj) (hap : oi.apart ops oj = true) (hsi : ∀ cs b, oi.op ≠ .select cs b) (hsj : ∀ cs b, oj.op ≠ .select cs b)
    (hQ : ∀ c a w, Q (.panic c) (a.put oi.dst v) w → Q (.panic c) a w) (hY : ∀ a a', execOp a'.eval oi = execOp a.eval oi → Region.wanted oi (yielded ops a'.tmps) = Region.wanted oi (yielded ops a.tmps) → Y a → Y a')
    {K : Act → World → Prop} {a : Act} {w : World} (hy : Y a) (h : wpOp P ops Q j K (a.put oi.dst v) w) : wpOp P ops Q j (fun a' w' => Y a' ∧ K (a'.put oi.dst v) w') a w := by
  obtain ⟨h1, h2, h3⟩ := Oper.apart_spec hap
  have kp : ∀ u, Y (a.put oj.dst u) := fun u => hY _ _ (execOp_put oi hsi a oj.dst u h3) (wanted_put oi a oj.dst u h3) hy
  have kd : ∀ d u, Y (Act.put { a with defers := d :: a.defers } oj.dst u) := fun d u =>
    hY _ _ (execOp_put oi hsi { a with defers := d :: a.defers } oj.dst u h3) (wanted_put oi { a with defers := d :: a.defers } oj.dst u h3) (hY a { a with defers := d :: a.defers } rfl rfl hy)
  have pc : ∀ (b : Act) (u : Value), (b.put oi.dst v).put oj.dst u = (b.put oj.dst u).put oi.dst v := fun b u => Act.put_comm b v u h2
  unfold wpOp at *
  simp only [hj] at *
  rw [wanted_put oj a oi.dst v h1] at h
  by_cases hw : Region.wanted oj (yielded ops a.tmps) = true
  · simp only [hw, if_true] at h ⊢
    rcases h with h | ⟨hasks, hlets⟩
    · left
      unfold Oper.wp at *
      rw [execOp_put oj hsj a oi.dst v h1] at h
      generalize (execOp a.eval oj).run P w = r at *
      cases r with
      | ok n w' =>
        cases n <;> simp only [Oper.upon] at h ⊢
        case value u => exact ⟨kp u, by rw [← pc]; exact h⟩
        case skip => exact ⟨kp _, by rw [← pc]; exact h⟩
        case defer d =>
          refine ⟨kd d _, ?_⟩
          rw [← pc, ← Act.put_defers]
          exact h
        case enter f args =>
          refine Calls.mono h fun e w'' he => ?_
          cases e with
          | returned u => exact ⟨kp u, by rw [← pc]; exact he⟩
          | panicked c => exact hQ _ _ _ he
          | outgrown => exact he
        case row row args => exact Rows.mono h fun u w'' he => ⟨kp u, by rw [← pc]; exact he⟩
      | halt x w' =>
        cases x <;> simp only [Oper.upon] at h ⊢
        case panic u => exact hQ _ _ _ h
    · exact .inr ⟨by unfold Oper.asks at *; rw [execOp_put oj hsj a oi.dst v h1] at hasks; exact hasks, hlets⟩
  · simp only [hw] at h ⊢
    exact ⟨kp _, by rw [← pc]; exact h⟩
def wpAnyY (P : Program) (md : Region.Mode) (ops : Array Oper) (E : Nat → Bool) (Q : Exit → Act → World → Prop) : Nat → Array Bool → (World → Prop) → (World → Prop) → Act → Prop
  | 0, listed, C, D, a => Region.ready md ops listed = [] ∧ ∀ w, D w → Q .normal a w
  | f + 1, listed, C, D, a => (Region.ready md ops listed = [] → ∀ w, D w → Q .normal a w) ∧
    ∀ i ∈ Region.ready md ops listed, ∀ w, D w → wpOp P ops Q i (fun a' w' => ∃ C' D' : World → Prop, Stable D' ∧ ((∀ W, C' W → C W) ∨ FenceE md ops E i listed) ∧ (∀ W, D' W → C' W) ∧ D' w' ∧ wpAnyY P md ops E Q f (listed.setIfInBounds i true) C' D' a') a w
theorem wpAnyY_sound : ∀ (f : Nat) (listed : Array Bool) (C D : World → Prop) (a : Act) (w : World), D w → wpAnyY P md ops E Q f listed C D a → wpAny P md ops Q f listed a w
  | 0, _, _, _, _, w, hw, h => ⟨h.1, h.2 w hw⟩
  | f + 1, _, _, _, _, w, hw, h => ⟨fun h0 => h.1 h0 w hw, fun i hi => wpOp_mono (fun a' w' ⟨C', D', _, _, _, h3, h4⟩ => wpAnyY_sound f _ C' D' a' w' h3 h4) (h.2 i hi w hw)⟩
theorem wpAnyY_first {i : Nat} {oi : Oper} {v : Value} (hi : ops[i]? = some oi) (hsel : ∀ (j : Nat) (o : Oper) cs b, ops[j]? = some o → o.op ≠ .select cs b) (hQ : ∀ c a w, Q (.panic c) (a.put oi.dst v) w → Q (.panic c) a w) :
    ∀ (f : Nat) (listed : Array Bool) (C D : World → Prop) (a : Act), Stable D → (∀ W, D W → C W) →
      (∀ j oj, ops[j]? = some oj → j ≠ i → listed.getD j true = false → (∀ e ∈ oj.after, Region.binds md e = true → e.on ≠ i) → oi.apart ops oj = true) →
      i ∈ Region.ready md ops listed → Down md ops listed → YieldsC P ops C oi v a → (E i = false → YieldsC P ops AllW oi v a) → wpAnyY P md ops E Q f (listed.setIfInBounds i true) C D (a.put oi.dst v) → wpAnyY P md ops E Q (f + 1) listed C D a
  | 0, listed, C, D, a, hst, hDC, hfree, hr, hdn, hy, hyw, H => by
    refine ⟨fun h => (by rw [h] at hr; cases hr), fun j hj w hw => ?_⟩
    by_cases hji : j = i
    · subst hji
      exact hy.wpOpD hi hst hDC hw fun w' hw' => ⟨C, D, hst, .inl fun _ h => h, hDC, hw', H⟩
    · have := ready_mono hj hji
      rw [H.1] at this
      cases this
  | f + 1, listed, C, D, a, hst, hDC, hfree, hr, hdn, hy, hyw, H => by
    refine ⟨fun h => (by rw [h] at hr; cases hr), fun j hj w hw => ?_⟩
    by_cases hji : j = i
    · subst hji
      exact hy.wpOpD hi hst hDC hw fun w' hw' => ⟨C, D, hst, .inl fun _ h => h, hDC, hw', H⟩
    · have h1 := H.2 j (ready_mono hj hji) w hw
      obtain ⟨hjun, oj, hoj, hall⟩ := mem_ready.1 hj
      have h0 := (mem_ready.1 hr).1
      have hil : listed.getD i false = false := by
        rcases Nat.lt_or_ge i listed.size with h' | h'
        · simp [h'] at h0 ⊢; exact h0
        · simp [Array.getElem?_eq_none h']
      have hnot : ∀ e ∈ oj.after, Region.binds md e = true → e.on ≠ i := fun e he hb heq => by
        have h2 := hall e he hb
        rw [heq, hil] at h2
        cases h2
      have h2 := wpOp_apartG (Y := fun a => YieldsC P ops C oi v a ∧ (E i = false → YieldsC P ops AllW oi v a)) hoj (hfree j oj hoj hji hjun hnot) (fun cs b => hsel i oi cs b hi) (fun cs b => hsel j oj cs b hoj) hQ (fun a a' e1 e2 hh => ⟨hh.1.same e1 e2, fun hd => (hh.2 hd).same e1 e2⟩) ⟨hy, hyw⟩ h1
      have hfree' : ∀ k ok, ops[k]? = some ok → k ≠ i → (listed.setIfInBounds j true).getD k true = false → (∀ e ∈ ok.after, Region.binds md e = true → e.on ≠ i) → oi.apart ops ok = true := fun k ok hk hki hun hno => by
        refine hfree k ok hk hki ?_ hno
        by_cases hjk : j = k
        · subst hjk; exact hjun
        · rw [getD_set_ne true hjk] at hun; exact hun
      have hsz : i < listed.size := by
        apply Classical.byContradiction
        intro h'
        rw [Array.getD_eq_getD_getElem?, Array.getElem?_eq_none (by omega)] at h0
        cases h0
      refine wpOp_mono (fun a' w' h3 => ?_) h2
      obtain ⟨⟨hy', hyw'⟩, C', D', k1, k2, k3, k4, k5⟩ := h3
      rw [Array.setIfInBounds_comm _ _ (fun e => hji e.symm)] at k5
      rcases k2 with k2 | k2
      · exact ⟨C', D', k1, .inl k2, k3, k4, wpAnyY_first hi hsel hQ f (listed.setIfInBounds j true) C' D' a' k1 k3 hfree' (ready_mono hr (Ne.symm hji)) (hdn.set hj) (hy'.narrow k2) hyw' k5⟩
      · cases hd : E i
        · exact ⟨C', D', k1, .inr fun k hk hl => k2 k hk (getD_set_true hl), k3, k4, wpAnyY_first hi hsel hQ f (listed.setIfInBounds j true) C' D' a' k1 k3 hfree' (ready_mono hr (Ne.symm hji)) (hdn.set hj) ((hyw' hd).narrow fun _ _ => trivial) hyw' k5⟩
        · obtain ⟨n, hn⟩ := k2 i hd (by simp [hsz])
          have := anc_spec hdn n j hn (fun o ho e he hb => by rw [hoj] at ho; cases ho; exact hall e he hb)
          rw [hil] at this
          cases this

/-! groups -/
def putAll (l : List (Nat × Oper)) (vs : Nat → Value) (a : Act) : Act := l.foldl (fun a p => a.put p.2.dst (vs p.1)) a
def setAll (l : List Nat) (listed : Array Bool) : Array Bool := l.foldl (fun s i => s.setIfInBounds i true) listed
theorem putAll_snoc (l : List (Nat × Oper)) (p : Nat × Oper) (vs : Nat → Value) (a : Act) : putAll (l ++ [p]) vs a = (putAll l vs a).put p.2.dst (vs p.1) := by simp [putAll]
theorem putAll_congr {l : List (Nat × Oper)} {vs vs' : Nat → Value} (h : ∀ p ∈ l, vs p.1 = vs' p.1) (a : Act) : putAll l vs a = putAll l vs' a := by
  induction l generalizing a with
  | nil => rfl
  | cons p l ih =>
    simp only [putAll, List.foldl_cons] at ih ⊢
    rw [h p List.mem_cons_self]
    exact ih (fun q hq => h q (List.mem_cons_of_mem _ hq)) _
theorem putAll_perm {l l' : List (Nat × Oper)} (h : l.Perm l') (vs : Nat → Value) (hd : ∀ p ∈ l, ∀ q ∈ l, p.1 ≠ q.1 → ∀ d, p.2.dst = some d → q.2.dst ≠ some d) (hn : (l.map (·.1)).Nodup) (a : Act) : putAll l vs a = putAll l' vs a := by
  induction h generalizing a with
  | nil => rfl
  | cons p h ih =>
    simp only [putAll, List.foldl_cons]
    exact ih (fun p' hp' q' hq' => hd p' (List.mem_cons_of_mem _ hp') q' (List.mem_cons_of_mem _ hq')) (List.nodup_cons.1 (by simpa using hn)).2 _
  | swap x y l =>
    simp only [putAll, List.foldl_cons]
    have hne : y.1 ≠ x.1 := by
      simp at hn
      exact hn.1.1
    rw [Act.put_comm a _ _ (hd y List.mem_cons_self x (List.mem_cons_of_mem _ List.mem_cons_self) hne)]
  | trans h1 h2 ih1 ih2 =>
    rw [ih1 hd hn, ih2 (fun p hp q hq => hd p (h1.mem_iff.2 hp) q (h1.mem_iff.2 hq)) ((h1.map _).nodup_iff.1 hn)]
theorem setAll_perm {l l' : List Nat} (h : l.Perm l') (listed : Array Bool) : setAll l listed = setAll l' listed := by
  induction h generalizing listed with
  | nil => rfl
  | cons p h ih => exact ih _
  | swap x y l =>
    simp only [setAll, List.foldl_cons]
    by_cases e : x = y
    · rw [e]
    · rw [Array.setIfInBounds_comm _ _ e]
  | trans _ _ ih1 ih2 => rw [ih1, ih2]
theorem setAll_snoc (l : List Nat) (i : Nat) (listed : Array Bool) : setAll (l ++ [i]) listed = (setAll l listed).setIfInBounds i true := by simp [setAll]
theorem ready_setAll {listed : Array Bool} {j : Nat} : ∀ (l : List Nat) (listed : Array Bool), j ∈ Region.ready md ops listed → j ∉ l → j ∈ Region.ready md ops (setAll l listed)
  | [], _, h, _ => h
  | i :: l, listed, h, hn => ready_setAll (listed := listed) l _ (ready_mono h (fun e => hn (by rw [e]; exact List.mem_cons_self))) (fun hm => hn (List.mem_cons_of_mem _ hm))

/-- A property of values that a callee's own memory does not lead out of. -/
def StableV (V : Value → World → Prop) : Prop := ∀ v w w', V v w → Below w.heap.size w w' → V v w'
/-- What the check of a group says. -/
structure GroupOk (md : Region.Mode) (ops : Array Oper) (l : List (Nat × Oper)) (listed : Array Bool) : Prop where
  nodup : (l.map (·.1)).Nodup
  op : ∀ p ∈ l, ops[p.1]? = some p.2
  ready : ∀ p ∈ l, p.1 ∈ Region.ready md ops listed
  last : ∀ p ∈ l, ∀ j ∈ Region.ready md ops (setAll ((l.map (·.1)).filter (· != p.1)) listed), j = p.1
  apart : ∀ p ∈ l, ∀ q ∈ l, p.1 ≠ q.1 → p.2.apart ops q.2 = true
theorem execOp_putAll {o : Oper} (hs : ∀ cs b, o.op ≠ .select cs b) {vs : Nat → Value} : ∀ (l : List (Nat × Oper)) (a : Act), (∀ p ∈ l, ∀ d, p.2.dst = some d → d ∉ o.looksAt ops) → execOp (putAll l vs a).eval o = execOp a.eval o ∧ Region.wanted o (yielded ops (putAll l vs a).tmps) = Region.wanted o (yielded ops a.tmps)
  | [], _, _ => ⟨rfl, rfl⟩
  | p :: l, a, h => by
    obtain ⟨h1, h2⟩ := execOp_putAll hs (vs := vs) l (a.put p.2.dst (vs p.1)) (fun q hq => h q (List.mem_cons_of_mem _ hq))
    exact ⟨h1.trans (execOp_put o hs a _ _ (h p List.mem_cons_self)), h2.trans (wanted_put o a _ _ (h p List.mem_cons_self))⟩
theorem wpAnyY_group {l : List (Nat × Oper)} {listed : Array Bool} (hg : GroupOk md ops l listed) (hsel : ∀ (j : Nat) (o : Oper) cs b, ops[j]? = some o → o.op ≠ .select cs b) {V : Nat → Value → World → Prop} {N : World → Value → Prop} {R : Value → Value → Prop} (hV : ∀ i, StableV (V i)) (hR : ∀ p ∈ l, ∀ v u w, V p.1 v w → N w u → R v u ∧ R u v)
    {C D : World → Prop} (hst : Stable D) (hDC : ∀ W, D W → C W) {a : Act} (hm : ∀ p ∈ l, Region.wanted p.2 (yielded ops a.tmps) = true ∧ ∀ w, D w → makesAt P p.2 a w (fun u w' => V p.1 u w' ∧ N w u)) {f : Nat}
    (hfin : ∀ vs, (∃ w, D w ∧ ∀ p ∈ l, V p.1 (vs p.1) w) → (∀ p ∈ l, ∀ q ∈ l, p.1 ≠ q.1 → R (vs p.1) (vs q.1)) → wpAnyY P md ops E Q f (setAll (l.map (·.1)) listed) C (fun w => D w ∧ ∀ p ∈ l, V p.1 (vs p.1) w) (putAll l vs a)) :
    ∀ (n : Nat) (done rem : List (Nat × Oper)), rem.length = n → (done ++ rem).Perm l → ∀ vs, (∃ w, D w ∧ ∀ p ∈ done, V p.1 (vs p.1) w) → (∀ p ∈ done, ∀ q ∈ done, p.1 ≠ q.1 → R (vs p.1) (vs q.1)) → wpAnyY P md ops E Q (n + f) (setAll (done.map (·.1)) listed) C (fun w => D w ∧ ∀ p ∈ done, V p.1 (vs p.1) w) (putAll done vs a) := by
  intro n
  induction n with
  | zero =>
    intro done rem hr hp vs hex hrr
    obtain rfl : rem = [] := List.eq_nil_of_length_eq_zero hr
    rw [List.append_nil] at hp
    have h := hfin vs (by obtain ⟨w, h1, h2⟩ := hex; exact ⟨w, h1, fun p hp' => h2 p (hp.mem_iff.2 hp')⟩) (fun p hp1 q hq1 hne => hrr p (hp.mem_iff.2 hp1) q (hp.mem_iff.2 hq1) hne)
    rw [← setAll_perm (hp.map (·.1)), ← putAll_perm hp vs (fun p hp' q hq hne d hd => (Oper.apart_spec (hg.apart p (hp.mem_iff.1 hp') q (hp.mem_iff.1 hq) hne)).2.1 d hd) ((hp.map _).nodup_iff.2 hg.nodup)] at h
    rw [show (fun w => D w ∧ ∀ p ∈ done, V p.1 (vs p.1) w) = (fun w => D w ∧ ∀ p ∈ l, V p.1 (vs p.1) w) from funext fun w => propext ⟨fun ⟨h1, h2⟩ => ⟨h1, fun p hp' => h2 p (hp.mem_iff.2 hp')⟩, fun ⟨h1, h2⟩ => ⟨h1, fun p hp' => h2 p (hp.mem_iff.1 hp')⟩⟩]
    rw [Nat.zero_add]
    exact h
  | succ n ih =>
    intro done rem hr hp vs hex hrr
    have hnd : ((done ++ rem).map (·.1)).Nodup := (hp.map _).nodup_iff.2 hg.nodup
    have hne : rem ≠ [] := fun e => by rw [e] at hr; cases hr
    have hdis : ∀ q ∈ rem, ∀ p ∈ done, p.1 ≠ q.1 := fun q hq p hp' e => by
      rw [List.map_append, List.nodup_append] at hnd
      exact hnd.2.2 p.1 (List.mem_map_of_mem hp') q.1 (List.mem_map_of_mem hq) e
    have hsz : n + 1 + f = (n + f) + 1 := by omega
    rw [hsz]
    refine ⟨fun h0 => ?_, fun j hj w hw => ?_⟩
    · obtain ⟨q, hq⟩ := List.exists_mem_of_ne_nil _ hne
      have h1 := ready_setAll (md := md) (ops := ops) (listed := listed) (done.map (·.1)) listed (hg.ready q (hp.mem_iff.1 (List.mem_append_right _ hq))) (fun hm' => by
        obtain ⟨p, hp', e⟩ := List.mem_map.1 hm'
        exact hdis q hq p hp' e)
      rw [h0] at h1
      cases h1
    · -- what comes up is one of the rest
      have hjr : ∃ q ∈ rem, q.1 = j := by
        apply Classical.byContradiction
        intro hno
        obtain ⟨q, hq⟩ := List.exists_mem_of_ne_nil _ hne
        obtain ⟨hjun, oj, hoj, hall⟩ := mem_ready.1 hj
        have hjd : j ∉ done.map (·.1) := fun hm' => by
          have hin : ∀ (l : List Nat) (s : Array Bool), j < s.size → (j ∈ l ∨ s.getD j true = true) → (setAll l s).getD j true = true := by
            intro l
            induction l with
            | nil => intro s hs h; exact h.resolve_left (by simp)
            | cons i l ih' =>
              intro s hs h
              refine ih' (s.setIfInBounds i true) (by simpa using hs) ?_
              by_cases e : i = j
              · subst e; right; simp [hs]
              · rcases h with h | h
                · exact .inl ((List.mem_cons.1 h).resolve_left (Ne.symm e))
                · right; rw [getD_set_ne true e]; exact h
          obtain ⟨p, hp', rfl⟩ := List.mem_map.1 hm'
          have hrp := (mem_ready.1 (hg.ready p (hp.mem_iff.1 (List.mem_append_left _ hp')))).1
          have hlt : p.1 < listed.size := by
            rcases Nat.lt_or_ge p.1 listed.size with h | h
            · exact h
            · simp [Array.getElem?_eq_none h] at hrp
          rw [hin _ _ hlt (.inl hm')] at hjun
          cases hjun
        have hjq : j ≠ q.1 := fun e => hno ⟨q, hq, e.symm⟩
        have h2 := ready_setAll (md := md) (ops := ops) (listed := setAll (done.map (·.1)) listed) ((rem.map (·.1)).filter (· != q.1)) _ hj (fun hm' => by
          obtain ⟨h3, _⟩ := List.mem_filter.1 hm'
          obtain ⟨p, hp', e⟩ := List.mem_map.1 h3
          exact hno ⟨p, hp', e⟩)
        have h4 : setAll ((rem.map (·.1)).filter (· != q.1)) (setAll (done.map (·.1)) listed) = setAll ((l.map (·.1)).filter (· != q.1)) listed := by
          rw [show setAll ((rem.map (·.1)).filter (· != q.1)) (setAll (done.map (·.1)) listed) = setAll (done.map (·.1) ++ (rem.map (·.1)).filter (· != q.1)) listed by simp [setAll]]
          refine setAll_perm ?_ _
          have h5 : (done.map (·.1)).filter (· != q.1) = done.map (·.1) := List.filter_eq_self.2 fun x hx => by
            obtain ⟨p, hp', rfl⟩ := List.mem_map.1 hx
            simpa using hdis q hq p hp'
          rw [← h5, ← List.filter_append, ← List.map_append]
          exact (hp.map _).filter _
        rw [h4] at h2
        exact hjq (hg.last q (hp.mem_iff.1 (List.mem_append_right _ hq)) j h2)
      obtain ⟨q, hq, rfl⟩ := hjr
      have hql : q ∈ l := hp.mem_iff.1 (List.mem_append_right _ hq)
      have hqo := hg.op q hql
      obtain ⟨he, hwn⟩ := execOp_putAll (ops := ops) (o := q.2) (fun cs b => hsel q.1 q.2 cs b hqo) (vs := vs) done a (fun p hp' => (Oper.apart_spec (hg.apart p (hp.mem_iff.1 (List.mem_append_left _ hp')) q hql (hdis q hq p hp'))).1)
      obtain ⟨m1, m2⟩ := hm q hql
      have m3 := m2 w hw.1
      obtain ⟨s, t, hst'⟩ := List.append_of_mem hq
      have hkey : ∀ u w', Below w.heap.size w w' → (V q.1 u w' ∧ N w u) → ∃ C' D' : World → Prop, Stable D' ∧ ((∀ W, C' W → C W) ∨ FenceE md ops E q.1 (setAll (done.map (·.1)) listed)) ∧ (∀ W, D' W → C' W) ∧ D' w' ∧ wpAnyY P md ops E Q (n + f) ((setAll (done.map (·.1)) listed).setIfInBounds q.1 true) C' D' ((putAll done vs a).put q.2.dst u) := by
        intro u w' hb ⟨hu, hnu⟩
        have hvs : ∀ p ∈ done, vs p.1 = (fun k => if k = q.1 then u else vs k) p.1 := fun p hp' => by simp [hdis q hq p hp']
        have hnew : D w' ∧ ∀ p ∈ done ++ [q], V p.1 ((fun k => if k = q.1 then u else vs k) p.1) w' := ⟨hst _ _ hw.1 hb, fun p hp' => by
          rcases List.mem_append.1 hp' with hp' | hp'
          · simp only [if_neg (hdis q hq p hp')]; exact hV _ _ _ _ (hw.2 p hp') hb
          · rw [List.mem_singleton.1 hp']; simpa using hu⟩
        have h6 := ih (done ++ [q]) (s ++ t) (by rw [hst'] at hr; simp at hr ⊢; omega) (by rw [List.append_assoc]; refine .trans (List.Perm.append_left done ?_) hp; rw [hst']; simpa using (List.perm_middle (a := q) (l₁ := s) (l₂ := t)).symm) (fun k => if k = q.1 then u else vs k) ⟨w', hnew⟩ (fun p1 hp1 p2 hp2 hne => by
          rcases List.mem_append.1 hp1 with g1 | g1
          · rcases List.mem_append.1 hp2 with g2 | g2
            · simp only [if_neg (hdis q hq p1 g1), if_neg (hdis q hq p2 g2)]
              exact hrr p1 g1 p2 g2 hne
            · rw [List.mem_singleton.1 g2]
              simp only [if_neg (hdis q hq p1 g1), if_true]
              exact (hR p1 (hp.mem_iff.1 (List.mem_append_left _ g1)) _ _ _ (hw.2 p1 g1) hnu).1
          · rcases List.mem_append.1 hp2 with g2 | g2
            · rw [List.mem_singleton.1 g1]
              simp only [if_neg (hdis q hq p2 g2), if_true]
              exact (hR p2 (hp.mem_iff.1 (List.mem_append_left _ g2)) _ _ _ (hw.2 p2 g2) hnu).2
            · rw [List.mem_singleton.1 g1, List.mem_singleton.1 g2] at hne
              exact absurd rfl hne)
        rw [putAll_snoc, ← putAll_congr hvs, List.map_append, List.map_singleton, setAll_snoc] at h6
        simp only [if_true] at h6
        exact ⟨C, _, fun x x' hx hb' => ⟨hst _ _ hx.1 hb', fun p hp' => hV _ _ _ _ (hx.2 p hp') hb'⟩, .inl fun _ h => h, fun W hW => hDC W hW.1, hnew, h6⟩
      unfold wpOp
      simp only [hqo]
      rw [hwn, m1, if_pos rfl]
      left
      unfold Oper.wp
      rw [he]
      unfold makesAt at m3
      generalize (execOp a.eval q.2).run P w = r at *
      cases r with
      | ok nx w' =>
        cases nx <;> simp only [makesUpon] at m3 <;> simp only [Oper.upon]
        case value u => exact hkey u w' m3.1 m3.2
        case enter fn args =>
          obtain ⟨e1, hc⟩ := m3
          refine hc.mono fun e w'' ⟨u, he', hb, hu⟩ => ?_
          subst he'
          exact hkey u w'' (e1.trans hb) hu
      | halt x w' => simp only [makesUpon] at m3

/-! one that makes memory, at any time while others come up -/
theorem makesAt_put {o : Oper} (hs : ∀ cs b, o.op ≠ .select cs b) {a : Act} {d : Option Tmp} {u : Value} (h : ∀ k, d = some k → k ∉ o.looksAt ops) {w : World} {V : Value → World → Prop} : makesAt P o (a.put d u) w V ↔ makesAt P o a w V := by
  unfold makesAt
  rw [execOp_put o hs a d u h]
theorem makes_step {j : Nat} {oj : Oper} {V : Value → World → Prop} {f : Nat} {listed : Array Bool} {C D : World → Prop} {a : Act} (hj : ops[j]? = some oj) (hst : Stable D) (hDC : ∀ W, D W → C W) (hV : StableV V) (hwn : Region.wanted oj (yielded ops a.tmps) = true) {w : World} (hw : D w) (hm : makesAt P oj a w V)
    (H : ∀ u, (∃ w, D w ∧ V u w) → wpAnyY P md ops E Q f (listed.setIfInBounds j true) C (fun w => D w ∧ V u w) (a.put oj.dst u)) :
    wpOp P ops Q j (fun a' w' => ∃ C' D' : World → Prop, Stable D' ∧ ((∀ W, C' W → C W) ∨ FenceE md ops E j listed) ∧ (∀ W, D' W → C' W) ∧ D' w' ∧ wpAnyY P md ops E Q f (listed.setIfInBounds j true) C' D' a') a w := by
  have hkey : ∀ u w', Below w.heap.size w w' → V u w' → ∃ C' D' : World → Prop, Stable D' ∧ ((∀ W, C' W → C W) ∨ FenceE md ops E j listed) ∧ (∀ W, D' W → C' W) ∧ D' w' ∧ wpAnyY P md ops E Q f (listed.setIfInBounds j true) C' D' (a.put oj.dst u) := fun u w' hb hu =>
    ⟨C, _, fun x x' hx hb' => ⟨hst _ _ hx.1 hb', hV _ _ _ hx.2 hb'⟩, .inl fun _ h => h, fun W hW => hDC W hW.1, ⟨hst _ _ hw hb, hu⟩, H u ⟨w', hst _ _ hw hb, hu⟩⟩
  unfold wpOp
  simp only [hj]
  rw [hwn, if_pos rfl]
  left
  unfold Oper.wp
  unfold makesAt at hm
  generalize (execOp a.eval oj).run P w = r at *
  cases r with
  | ok nx w' =>
    cases nx <;> simp only [makesUpon] at hm <;> simp only [Oper.upon]
    case value u => exact hkey u w' hm.1 hm.2
    case enter fn args =>
      obtain ⟨e1, hc⟩ := hm
      refine hc.mono fun e w'' ⟨u, he', hb, hu⟩ => ?_
      subst he'
      exact hkey u w'' (e1.trans hb) hu
  | halt x w' => simp only [makesUpon] at hm
/-- What may come up while one that makes memory has not. -/
inductive EntF where
  | free (i : Nat)
  | calm (i : Nat)
  | one (i : Nat)
inductive EntFO where
  | free (o : Oper)
  | calm (o : Oper)
  | one (o : Oper)
def EntF.num : EntF → Nat
  | .free i => i
  | .calm i => i
  | .one i => i
def pickF (l : List Oper) : List EntF → List EntFO
  | [] => []
  | .calm i :: r => match l[i]? with | some o => .calm o :: pickF l r | none => []
  | .free i :: r => match l[i]? with | some o => .free o :: pickF l r | none => []
  | .one i :: r => match l[i]? with | some o => .one o :: pickF l r | none => []
def wpFloat (P : Program) (ops : Array Oper) (oi : Oper) (V : Value → World → Prop) (C : World → Prop) (K : (World → Prop) → Act → Prop) : List EntFO → (World → Prop) → Act → Prop
  | [], D, a => ∀ v, (∃ w, D w ∧ V v w) → K (fun w => D w ∧ V v w) (a.put oi.dst v)
  | .calm o :: r, D, a => if Region.wanted o (yielded ops a.tmps) = true then ∃ v, (∀ w, C w → calmAt P o a w v) ∧ wpFloat P ops oi V C K r D (a.put o.dst v) else wpFloat P ops oi V C K r D (a.put o.dst undef)
  | .free o :: r, D, a => if Region.wanted o (yielded ops a.tmps) = true then ∃ v, (∀ w, calmAt P o a w v) ∧ wpFloat P ops oi V C K r D (a.put o.dst v) else wpFloat P ops oi V C K r D (a.put o.dst undef)
  | .one o :: r, D, a => ∃ U : Value → World → Prop, StableV U ∧ Region.wanted o (yielded ops a.tmps) = true ∧ (∀ w, D w → makesAt P o a w U) ∧ ∀ u, (∃ w, D w ∧ U u w) → wpFloat P ops oi V C K r (fun w => D w ∧ U u w) (a.put o.dst u)
def apartB (ops : Array Oper) (k i : Nat) : Bool := k != i && match ops[k]?, ops[i]? with | some x, some y => x.apart ops y | _, _ => false
def floatB (md : Region.Mode) (ops : Array Oper) (deps : List Nat) (i : Nat) : List EntF → Array Bool → Bool
  | [], listed => Region.ready md ops listed == [i]
  | .free k :: r, listed => Region.free md ops listed k && (Region.free md ops (listed.setIfInBounds i true) k && ((Region.ready md ops listed).contains k && (!(deps.contains k) && (apartB ops k i && floatB md ops deps i r (listed.setIfInBounds k true)))))
  | .calm k :: r, listed => Region.free md ops listed k && (Region.free md ops (listed.setIfInBounds i true) k && ((Region.ready md ops listed).contains k && (deps.contains k && (apartB ops k i && floatB md ops deps i r (listed.setIfInBounds k true)))))
  | .one k :: r, listed => (Region.ready md ops listed).all (fun j => j == i || j == k) && ((Region.ready md ops listed).contains k && (Region.ready md ops (listed.setIfInBounds i true) == [k] && (apartB ops k i && floatB md ops deps i r (listed.setIfInBounds k true))))
theorem apartB_spec {k i : Nat} {x y : Oper} (h : apartB ops k i = true) (hk : ops[k]? = some x) (hi : ops[i]? = some y) : k ≠ i ∧ x.apart ops y = true := by
  simp only [apartB, hk, hi, Bool.and_eq_true, bne_iff_ne] at h
  exact h
theorem wpAnyY_float {l : List Oper} {deps : List Nat} (hs : Region.noSelect l.toArray = true) (hQ : ∀ o ∈ l, ∀ c a v w, Q (.panic c) (Act.put a o.dst v) w → Q (.panic c) a w) {i : Nat} {oi : Oper} (hi : l.toArray[i]? = some oi) {V : Value → World → Prop} (hV : StableV V) {f : Nat} {C : World → Prop} {K : (World → Prop) → Act → Prop} :
    ∀ (s : List EntF) (listed : Array Bool) (D : World → Prop) (a : Act), Stable D → (∀ W, D W → C W) → (∃ w, D w) → Down md l.toArray listed → i ∈ Region.ready md l.toArray listed → floatB md l.toArray deps i s listed = true → Region.wanted oi (yielded l.toArray a.tmps) = true → (∀ w, D w → makesAt P oi a w V) →
      (∀ D' a', Stable D' → (∀ W, D' W → C W) → (∃ w, D' w) → Down md l.toArray ((setAll (s.map EntF.num) listed).setIfInBounds i true) → K D' a' → wpAnyY P md l.toArray (fun k => deps.contains k) Q f ((setAll (s.map EntF.num) listed).setIfInBounds i true) C D' a') →
      wpFloat P l.toArray oi V C K (pickF l s) D a →
      wpAnyY P md l.toArray (fun k => deps.contains k) Q (s.length + 1 + f) listed C D a ∧ ∀ v, (∃ w, D w ∧ V v w) → wpAnyY P md l.toArray (fun k => deps.contains k) Q (s.length + f) (listed.setIfInBounds i true) C (fun w => D w ∧ V v w) (a.put oi.dst v)
  | [], listed, D, a, hst, hDC, hne, hdn, hr, hB, hwn, hm, hK, h => by
    have p2 : ∀ v, (∃ w, D w ∧ V v w) → wpAnyY P md l.toArray (fun k => deps.contains k) Q (0 + f) (listed.setIfInBounds i true) C (fun w => D w ∧ V v w) (a.put oi.dst v) := fun v hv => by
      rw [Nat.zero_add]
      exact hK _ _ (fun x x' hx hb => ⟨hst _ _ hx.1 hb, hV _ _ _ hx.2 hb⟩) (fun W hW => hDC W hW.1) hv (hdn.set hr) (h v hv)
    refine ⟨?_, p2⟩
    rw [Nat.zero_add] at p2
    simp only [List.length_nil]
    rw [show 0 + 1 + f = f + 1 by omega]
    refine ⟨fun h0 => (by rw [h0] at hr; cases hr), fun j hj w hw => ?_⟩
    simp only [floatB, beq_iff_eq] at hB
    rw [hB] at hj
    obtain rfl : j = i := by simpa using hj
    exact makes_step hi hst hDC hV hwn hw (hm w hw) p2
  | .calm k :: r, listed, D, a, hst, hDC, hne, hdn, hr, hB, hwn, hm, hK, h => by
    simp only [floatB, Bool.and_eq_true] at hB
    obtain ⟨hf, hf2, hrk, hde, hap, hB'⟩ := hB
    have hrk' : k ∈ Region.ready md l.toArray listed := by simpa using hrk
    obtain ⟨_, o, ho, _⟩ := mem_ready.1 hrk'
    have ho' : l[k]? = some o := by simpa using ho
    obtain ⟨hki, hapo⟩ := apartB_spec hap ho hi
    obtain ⟨a1, a2, a3⟩ := Oper.apart_spec hapo
    have hsel := Region.noSelect_spec hs
    simp only [pickF, ho', wpFloat] at h
    have hdn' := hdn.set hrk'
    have hK' : ∀ D' a', Stable D' → (∀ W, D' W → C W) → (∃ w, D' w) → Down md l.toArray ((setAll (r.map EntF.num) (listed.setIfInBounds k true)).setIfInBounds i true) → K D' a' → wpAnyY P md l.toArray (fun k => deps.contains k) Q f ((setAll (r.map EntF.num) (listed.setIfInBounds k true)).setIfInBounds i true) C D' a' := hK
    have key : ∀ v, YieldsC P l.toArray C o v a → wpFloat P l.toArray oi V C K (pickF l r) D (a.put o.dst v) → wpAnyY P md l.toArray (fun k => deps.contains k) Q (r.length + 1 + 1 + f) listed C D a ∧ ∀ u, (∃ w, D w ∧ V u w) → wpAnyY P md l.toArray (fun k => deps.contains k) Q (r.length + 1 + f) (listed.setIfInBounds i true) C (fun w => D w ∧ V u w) (a.put oi.dst u) := fun v hy hh => by
      obtain ⟨q1, q2⟩ := wpAnyY_float hs hQ hi hV r (listed.setIfInBounds k true) D (a.put o.dst v) hst hDC hne hdn' (ready_mono hr (Ne.symm hki)) hB' (by rw [wanted_put oi a o.dst v a1]; exact hwn) (fun w hw => (makesAt_put (fun cs b => hsel i oi cs b hi) a1).2 (hm w hw)) hK' hh
      refine ⟨?_, fun u hu => ?_⟩
      · have := wpAnyY_first (E := fun k => deps.contains k) ho hsel (fun c a w => hQ o (List.mem_of_getElem? ho') c a _ w) (r.length + 1 + f) listed C D a hst hDC (Region.free_spec ho hf) hrk' hdn hy (fun hd => by rw [hde] at hd; cases hd) q1
        rwa [show r.length + 1 + f + 1 = r.length + 1 + 1 + f by omega] at this
      · have := wpAnyY_first (E := fun k => deps.contains k) (v := v) (a := a.put oi.dst u) (D := fun w => D w ∧ V u w) ho hsel (fun c a w => hQ o (List.mem_of_getElem? ho') c a _ w) (r.length + f) (listed.setIfInBounds i true) C (fun x x' hx hb => ⟨hst _ _ hx.1 hb, hV _ _ _ hx.2 hb⟩) (fun W hW => hDC W hW.1) (Region.free_spec ho hf2) (ready_mono hrk' hki) (hdn.set hr) (hy.same (execOp_put o (fun cs b => hsel k o cs b ho) a oi.dst u a3) (wanted_put o a oi.dst u a3)) (fun hd => by rw [hde] at hd; cases hd) (by
          have := q2 u hu
          rw [Array.setIfInBounds_comm _ _ hki, Act.put_comm a v u a2] at this
          exact this)
        rwa [show r.length + f + 1 = r.length + 1 + f by omega] at this
    by_cases hw : Region.wanted o (yielded l.toArray a.tmps) = true
    · rw [if_pos hw] at h
      obtain ⟨v, h1, h2⟩ := h
      exact key v (.inl ⟨hw, h1⟩) h2
    · rw [if_neg hw] at h
      exact key undef (.inr ⟨by simpa using hw, rfl⟩) h
  | .free k :: r, listed, D, a, hst, hDC, hne, hdn, hr, hB, hwn, hm, hK, h => by
    simp only [floatB, Bool.and_eq_true] at hB
    obtain ⟨hf, hf2, hrk, _, hap, hB'⟩ := hB
    have hrk' : k ∈ Region.ready md l.toArray listed := by simpa using hrk
    obtain ⟨_, o, ho, _⟩ := mem_ready.1 hrk'
    have ho' : l[k]? = some o := by simpa using ho
    obtain ⟨hki, hapo⟩ := apartB_spec hap ho hi
    obtain ⟨a1, a2, a3⟩ := Oper.apart_spec hapo
    have hsel := Region.noSelect_spec hs
    simp only [pickF, ho', wpFloat] at h
    have hdn' := hdn.set hrk'
    have hK' : ∀ D' a', Stable D' → (∀ W, D' W → C W) → (∃ w, D' w) → Down md l.toArray ((setAll (r.map EntF.num) (listed.setIfInBounds k true)).setIfInBounds i true) → K D' a' → wpAnyY P md l.toArray (fun k => deps.contains k) Q f ((setAll (r.map EntF.num) (listed.setIfInBounds k true)).setIfInBounds i true) C D' a' := hK
    have key : ∀ v, YieldsC P l.toArray AllW o v a → wpFloat P l.toArray oi V C K (pickF l r) D (a.put o.dst v) → wpAnyY P md l.toArray (fun k => deps.contains k) Q (r.length + 1 + 1 + f) listed C D a ∧ ∀ u, (∃ w, D w ∧ V u w) → wpAnyY P md l.toArray (fun k => deps.contains k) Q (r.length + 1 + f) (listed.setIfInBounds i true) C (fun w => D w ∧ V u w) (a.put oi.dst u) := fun v hy hh => by
      obtain ⟨q1, q2⟩ := wpAnyY_float hs hQ hi hV r (listed.setIfInBounds k true) D (a.put o.dst v) hst hDC hne hdn' (ready_mono hr (Ne.symm hki)) hB' (by rw [wanted_put oi a o.dst v a1]; exact hwn) (fun w hw => (makesAt_put (fun cs b => hsel i oi cs b hi) a1).2 (hm w hw)) hK' hh
      refine ⟨?_, fun u hu => ?_⟩
      · have := wpAnyY_first (E := fun k => deps.contains k) ho hsel (fun c a w => hQ o (List.mem_of_getElem? ho') c a _ w) (r.length + 1 + f) listed C D a hst hDC (Region.free_spec ho hf) hrk' hdn (hy.narrow fun _ _ => trivial) (fun _ => hy) q1
        rwa [show r.length + 1 + f + 1 = r.length + 1 + 1 + f by omega] at this
      · have hy' := hy.same (execOp_put o (fun cs b => hsel k o cs b ho) a oi.dst u a3) (wanted_put o a oi.dst u a3)
        have := wpAnyY_first (E := fun k => deps.contains k) (v := v) (a := a.put oi.dst u) (D := fun w => D w ∧ V u w) ho hsel (fun c a w => hQ o (List.mem_of_getElem? ho') c a _ w) (r.length + f) (listed.setIfInBounds i true) C (fun x x' hx hb => ⟨hst _ _ hx.1 hb, hV _ _ _ hx.2 hb⟩) (fun W hW => hDC W hW.1) (Region.free_spec ho hf2) (ready_mono hrk' hki) (hdn.set hr) (hy'.narrow fun _ _ => trivial) (fun _ => hy') (by
          have := q2 u hu
          rw [Array.setIfInBounds_comm _ _ hki, Act.put_comm a v u a2] at this
          exact this)
        rwa [show r.length + f + 1 = r.length + 1 + f by omega] at this
    by_cases hw : Region.wanted o (yielded l.toArray a.tmps) = true
    · rw [if_pos hw] at h
      obtain ⟨v, h1, h2⟩ := h
      exact key v (.inl ⟨hw, fun w _ => h1 w⟩) h2
    · rw [if_neg hw] at h
      exact key undef (.inr ⟨by simpa using hw, rfl⟩) h
  | .one k :: r, listed, D, a, hst, hDC, hne, hdn, hr, hB, hwn, hm, hK, h => by
    simp only [floatB, Bool.and_eq_true, beq_iff_eq] at hB
    obtain ⟨hall, hrk, hr2, hap, hB'⟩ := hB
    have hrk' : k ∈ Region.ready md l.toArray listed := by simpa using hrk
    obtain ⟨_, o, ho, _⟩ := mem_ready.1 hrk'
    have ho' : l[k]? = some o := by simpa using ho
    obtain ⟨hki, hapo⟩ := apartB_spec hap ho hi
    obtain ⟨a1, a2, a3⟩ := Oper.apart_spec hapo
    have hsel := Region.noSelect_spec hs
    simp only [pickF, ho', wpFloat] at h
    have hdn' := hdn.set hrk'
    have hK' : ∀ D' a', Stable D' → (∀ W, D' W → C W) → (∃ w, D' w) → Down md l.toArray ((setAll (r.map EntF.num) (listed.setIfInBounds k true)).setIfInBounds i true) → K D' a' → wpAnyY P md l.toArray (fun k => deps.contains k) Q f ((setAll (r.map EntF.num) (listed.setIfInBounds k true)).setIfInBounds i true) C D' a' := hK
    obtain ⟨U, hU, hwk, hmk, hfin⟩ := h
    have q : ∀ u, (∃ w, D w ∧ U u w) → wpAnyY P md l.toArray (fun k => deps.contains k) Q (r.length + 1 + f) (listed.setIfInBounds k true) C (fun w => D w ∧ U u w) (a.put o.dst u) ∧ ∀ v, (∃ w, (D w ∧ U u w) ∧ V v w) → wpAnyY P md l.toArray (fun k => deps.contains k) Q (r.length + f) ((listed.setIfInBounds k true).setIfInBounds i true) C (fun w => (D w ∧ U u w) ∧ V v w) ((a.put o.dst u).put oi.dst v) := fun u hu => wpAnyY_float hs hQ hi hV r (listed.setIfInBounds k true) (fun w => D w ∧ U u w) (a.put o.dst u) (fun x x' hx hb => ⟨hst _ _ hx.1 hb, hU _ _ _ hx.2 hb⟩) (fun W hW => hDC W hW.1) hu hdn' (ready_mono hr (Ne.symm hki)) hB' (by rw [wanted_put oi a o.dst u a1]; exact hwn) (fun w hw => (makesAt_put (fun cs b => hsel i oi cs b hi) a1).2 (hm w hw.1)) hK' (hfin u hu)
    have p2 : ∀ v, (∃ w, D w ∧ V v w) → wpAnyY P md l.toArray (fun k => deps.contains k) Q (r.length + f + 1) (listed.setIfInBounds i true) C (fun w => D w ∧ V v w) (a.put oi.dst v) := fun v hv => by
      refine ⟨fun h0 => (by rw [h0] at hr2; cases hr2), fun j hj w hw => ?_⟩
      rw [hr2] at hj
      obtain rfl : j = k := by simpa using hj
      refine makes_step (V := U) (D := fun w => D w ∧ V v w) ho (fun x x' hx hb => ⟨hst _ _ hx.1 hb, hV _ _ _ hx.2 hb⟩) (fun W hW => hDC W hW.1) hU (by rw [wanted_put o a oi.dst v a3]; exact hwk) hw ((makesAt_put (fun cs b => hsel j o cs b ho) a3).2 (hmk w hw.1)) (fun u hu => ?_)
      obtain ⟨w', ⟨h1, h2⟩, h3⟩ := hu
      have := (q u ⟨w', h1, h3⟩).2 v ⟨w', ⟨h1, h3⟩, h2⟩
      rw [Array.setIfInBounds_comm _ _ hki, Act.put_comm a u v a2, show (fun w => (D w ∧ U u w) ∧ V v w) = (fun w => (D w ∧ V v w) ∧ U u w) from funext fun w => propext ⟨fun ⟨⟨a, b⟩, c⟩ => ⟨⟨a, c⟩, b⟩, fun ⟨⟨a, b⟩, c⟩ => ⟨⟨a, c⟩, b⟩⟩] at this
      exact this
    have p2' : ∀ v, (∃ w, D w ∧ V v w) → wpAnyY P md l.toArray (fun k => deps.contains k) Q (r.length + 1 + f) (listed.setIfInBounds i true) C (fun w => D w ∧ V v w) (a.put oi.dst v) := fun v hv => by
      have := p2 v hv
      rwa [show r.length + f + 1 = r.length + 1 + f by omega] at this
    refine ⟨?_, p2'⟩
    simp only [List.length_cons]
    rw [show r.length + 1 + 1 + f = (r.length + 1 + f) + 1 by omega]
    refine ⟨fun h0 => (by rw [h0] at hr; cases hr), fun j hj w hw => ?_⟩
    have hjk := List.all_eq_true.1 hall j hj
    simp only [Bool.or_eq_true, beq_iff_eq] at hjk
    rcases hjk with rfl | rfl
    · exact makes_step hi hst hDC hV hwn hw (hm w hw) p2'
    · exact makes_step ho hst hDC hU hwk hw (hmk w hw) (fun u hu => (q u hu).1)

/-- The order that is written down. -/
inductive Ent where
  | free (i : Nat)
  | calm (i : Nat)
  | fence (i : Nat)
  | alone (i : Nat)
  | group (l : List Nat)
  | float (i : Nat) (s : List EntF)
inductive EntO where
  | free (o : Oper)
  | calm (o : Oper)
  | fence (o : Oper)
  | alone (o : Oper)
  | group (l : List (Nat × Oper))
  | float (o : Oper) (s : List EntFO)
def wpFlow (P : Program) (ops : Array Oper) (Q : Exit → Act → World → Prop) : List EntO → (World → Prop) → (World → Prop) → Act → Prop
  | [], C, D, a => ∀ w, D w → Q .normal a w
  | .calm o :: r, C, D, a => if Region.wanted o (yielded ops a.tmps) = true then ∃ v, (∀ w, C w → calmAt P o a w v) ∧ wpFlow P ops Q r C D (a.put o.dst v) else wpFlow P ops Q r C D (a.put o.dst undef)
  | .free o :: r, C, D, a => if Region.wanted o (yielded ops a.tmps) = true then ∃ v, (∀ w, calmAt P o a w v) ∧ wpFlow P ops Q r C D (a.put o.dst v) else wpFlow P ops Q r C D (a.put o.dst undef)
  | .fence o :: r, C, D, a => ∀ w, D w → if Region.wanted o (yielded ops a.tmps) = true then Oper.wp P o a w (fun a' w' => ∃ C' D' : World → Prop, Stable D' ∧ (∀ W, D' W → C' W) ∧ D' w' ∧ wpFlow P ops Q r C' D' a') Q else wpFlow P ops Q r C D (a.put o.dst undef)
  | .alone o :: r, C, D, a => ∀ w, D w → if Region.wanted o (yielded ops a.tmps) = true then Oper.wp P o a w (fun a' w' => ∃ C' D' : World → Prop, Stable D' ∧ (∀ W, C' W → C W) ∧ (∀ W, D' W → C' W) ∧ D' w' ∧ wpFlow P ops Q r C' D' a') Q else wpFlow P ops Q r C D (a.put o.dst undef)
  | .group l :: r, C, D, a => ∃ (V : Nat → Value → World → Prop) (N : World → Value → Prop) (R : Value → Value → Prop), (∀ i, StableV (V i)) ∧ (∀ p ∈ l, ∀ v u w, V p.1 v w → N w u → R v u ∧ R u v) ∧ (∀ p ∈ l, Region.wanted p.2 (yielded ops a.tmps) = true ∧ ∀ w, D w → makesAt P p.2 a w (fun u w' => V p.1 u w' ∧ N w u)) ∧ ∀ vs, (∃ w, D w ∧ ∀ p ∈ l, V p.1 (vs p.1) w) → (∀ p ∈ l, ∀ q ∈ l, p.1 ≠ q.1 → R (vs p.1) (vs q.1)) → wpFlow P ops Q r C (fun w => D w ∧ ∀ p ∈ l, V p.1 (vs p.1) w) (putAll l vs a)
  | .float o s :: r, C, D, a => ∃ V : Value → World → Prop, StableV V ∧ Region.wanted o (yielded ops a.tmps) = true ∧ (∀ w, D w → makesAt P o a w V) ∧ wpFloat P ops o V C (fun D' a' => wpFlow P ops Q r C D' a') s D a
def groupB (md : Region.Mode) (ops : Array Oper) (l : List Nat) (listed : Array Bool) : Bool :=
  decide l.Nodup && (l.all (fun i => (Region.ready md ops listed).contains i && (Region.ready md ops (setAll (l.filter (· != i)) listed) == [i]) && l.all (fun j => i == j || match ops[i]?, ops[j]? with | some a, some b => a.apart ops b | _, _ => false)))
def fenceB' (md : Region.Mode) (ops : Array Oper) (j : Nat) (deps : List Nat) (listed : Array Bool) : Bool := deps.all fun k => !(listed.getD k false) || anc md ops ops.size j k
def flowB (md : Region.Mode) (ops : Array Oper) (deps : List Nat) : List Ent → Array Bool → Bool
  | [], listed => (Region.ready md ops listed).isEmpty
  | .free i :: r, listed => Region.free md ops listed i && (Region.ready md ops listed).contains i && !(deps.contains i) && flowB md ops deps r (listed.setIfInBounds i true)
  | .fence i :: r, listed => (Region.ready md ops listed == [i]) && fenceB' md ops i deps listed && flowB md ops deps r (listed.setIfInBounds i true)
  | .calm i :: r, listed => Region.free md ops listed i && (Region.ready md ops listed).contains i && deps.contains i && flowB md ops deps r (listed.setIfInBounds i true)
  | .alone i :: r, listed => (Region.ready md ops listed == [i]) && flowB md ops deps r (listed.setIfInBounds i true)
  | .group l :: r, listed => groupB md ops l listed && flowB md ops deps r (setAll l listed)
  | .float i s :: r, listed => (Region.ready md ops listed).contains i && (floatB md ops deps i s listed && flowB md ops deps r ((setAll (s.map EntF.num) listed).setIfInBounds i true))
def pickEnts (l : List Oper) : List Ent → List EntO
  | [] => []
  | .calm i :: r => match l[i]? with | some o => .calm o :: pickEnts l r | none => []
  | .alone i :: r => match l[i]? with | some o => .alone o :: pickEnts l r | none => []
  | .free i :: r => match l[i]? with | some o => .free o :: pickEnts l r | none => []
  | .fence i :: r => match l[i]? with | some o => .fence o :: pickEnts l r | none => []
  | .group g :: r => .group (g.filterMap fun i => (l[i]?).map fun o => (i, o)) :: pickEnts l r
  | .float i s :: r => match l[i]? with | some o => .float o (pickF l s) :: pickEnts l r | none => []
def entsLen : List Ent → Nat
  | [] => 0
  | .calm _ :: r => entsLen r + 1
  | .alone _ :: r => entsLen r + 1
  | .free _ :: r => entsLen r + 1
  | .fence _ :: r => entsLen r + 1
  | .group g :: r => g.length + entsLen r
  | .float _ s :: r => s.length + 1 + entsLen r
theorem groupOk_of {l : List Nat} {listed : Array Bool} (h : groupB md ops l listed = true) : GroupOk md ops (l.filterMap fun i => (ops[i]?).map fun o => (i, o)) listed ∧ (l.filterMap fun i => (ops[i]?).map fun o => (i, o)).map (·.1) = l := by
  simp only [groupB, Bool.and_eq_true, decide_eq_true_eq, List.all_eq_true, beq_iff_eq, Bool.or_eq_true] at h
  obtain ⟨h1, h2⟩ := h
  have hr : ∀ i ∈ l, i ∈ Region.ready md ops listed := fun i hi => by simpa using (h2 i hi).1.1
  have hop : ∀ i ∈ l, ∃ o, ops[i]? = some o := fun i hi => by obtain ⟨_, o, ho, _⟩ := mem_ready.1 (hr i hi); exact ⟨o, ho⟩
  have hmap : (l.filterMap fun i => (ops[i]?).map fun o => (i, o)).map (·.1) = l := by
    clear h1 h2 hr
    induction l with
    | nil => rfl
    | cons i l ih =>
      obtain ⟨o, ho⟩ := hop i List.mem_cons_self
      rw [List.filterMap_cons_some (b := (i, o)) (by simp [ho]), List.map_cons, ih (fun j hj => hop j (List.mem_cons_of_mem _ hj))]
  have hmem : ∀ p ∈ (l.filterMap fun i => (ops[i]?).map fun o => (i, o)), p.1 ∈ l ∧ ops[p.1]? = some p.2 := fun p hp => by
    obtain ⟨i, hi, he⟩ := List.mem_filterMap.1 hp
    obtain ⟨o, ho, e⟩ := Option.map_eq_some_iff.1 he
    subst e
    exact ⟨hi, ho⟩
  refine ⟨⟨by rw [hmap]; exact h1, fun p hp => (hmem p hp).2, fun p hp => hr _ (hmem p hp).1, fun p hp j hj => ?_, fun p hp q hq hne => ?_⟩, hmap⟩
  · rw [hmap, (h2 _ (hmem p hp).1).1.2] at hj
    simpa using hj
  · have := (h2 _ (hmem p hp).1).2 _ (hmem q hq).1
    rcases this with h | h
    · exact absurd h hne
    · rw [(hmem p hp).2, (hmem q hq).2] at h
      exact h
theorem fenceE_of {deps : List Nat} {j : Nat} {listed : Array Bool} (h : fenceB' md ops j deps listed = true) : FenceE md ops (fun k => deps.contains k) j listed := by
  intro k hk hl
  have h1 := List.all_eq_true.1 h k (by simpa using hk)
  rw [hl] at h1
  exact ⟨ops.size, by simpa using h1⟩
theorem down_setAll : ∀ (l : List Nat) (listed : Array Bool), Down md ops listed → (∀ i ∈ l, i ∈ Region.ready md ops listed) → l.Nodup → Down md ops (setAll l listed)
  | [], _, h, _, _ => h
  | i :: l, listed, h, hr, hn => by
    refine down_setAll l _ (h.set (hr i List.mem_cons_self)) (fun j hj => ready_mono (hr j (List.mem_cons_of_mem _ hj)) (fun e => ?_)) (List.nodup_cons.1 hn).2
    subst e
    exact (List.nodup_cons.1 hn).1 hj
theorem wpAnyY_flow {l : List Oper} {deps : List Nat} (hs : Region.noSelect l.toArray = true) (hQ : ∀ o ∈ l, ∀ c a v w, Q (.panic c) (Act.put a o.dst v) w → Q (.panic c) a w) : ∀ (s : List Ent) (listed : Array Bool) (C D : World → Prop) (a : Act), Stable D → (∀ W, D W → C W) → (∃ w, D w) → Down md l.toArray listed → flowB md l.toArray deps s listed = true → wpFlow P l.toArray Q (pickEnts l s) C D a → wpAnyY P md l.toArray (fun k => deps.contains k) Q (entsLen s) listed C D a
  | [], listed, C, D, a, hst, hDC, hne, hdn, hB, h => ⟨by simpa [flowB] using hB, h⟩
  | .calm i :: r, listed, C, D, a, hst, hDC, hne, hdn, hB, h => by
    simp only [flowB, Bool.and_eq_true] at hB
    obtain ⟨⟨⟨hf, hr⟩, hde⟩, hB'⟩ := hB
    have hr' : i ∈ Region.ready md l.toArray listed := by simpa using hr
    obtain ⟨_, o, ho, _⟩ := mem_ready.1 hr'
    have ho' : l[i]? = some o := by simpa using ho
    simp only [pickEnts, ho', wpFlow] at h
    have hdn' := hdn.set hr'
    by_cases hw : Region.wanted o (yielded l.toArray a.tmps) = true
    · rw [if_pos hw] at h
      obtain ⟨v, h1, h2⟩ := h
      exact wpAnyY_first ho (Region.noSelect_spec hs) (fun c a w => hQ o (List.mem_of_getElem? ho') c a _ w) (entsLen r) listed C D a hst hDC (Region.free_spec ho hf) hr' hdn (.inl ⟨hw, h1⟩) (fun hd => by rw [hde] at hd; cases hd) (wpAnyY_flow hs hQ r _ C D _ hst hDC hne hdn' hB' h2)
    · rw [if_neg hw] at h
      exact wpAnyY_first ho (Region.noSelect_spec hs) (fun c a w => hQ o (List.mem_of_getElem? ho') c a _ w) (entsLen r) listed C D a hst hDC (Region.free_spec ho hf) hr' hdn (.inr ⟨by simpa using hw, rfl⟩) (fun hd => by rw [hde] at hd; cases hd) (wpAnyY_flow hs hQ r _ C D _ hst hDC hne hdn' hB' h)
  | .free i :: r, listed, C, D, a, hst, hDC, hne, hdn, hB, h => by
    simp only [flowB, Bool.and_eq_true] at hB
    obtain ⟨⟨⟨hf, hr⟩, _⟩, hB'⟩ := hB
    have hr' : i ∈ Region.ready md l.toArray listed := by simpa using hr
    obtain ⟨_, o, ho, _⟩ := mem_ready.1 hr'
    have ho' : l[i]? = some o := by simpa using ho
    simp only [pickEnts, ho', wpFlow] at h
    have hdn' := hdn.set hr'
    by_cases hw : Region.wanted o (yielded l.toArray a.tmps) = true
    · rw [if_pos hw] at h
      obtain ⟨v, h1, h2⟩ := h
      exact wpAnyY_first ho (Region.noSelect_spec hs) (fun c a w => hQ o (List.mem_of_getElem? ho') c a _ w) (entsLen r) listed C D a hst hDC (Region.free_spec ho hf) hr' hdn (.inl ⟨hw, fun w _ => h1 w⟩) (fun _ => .inl ⟨hw, fun w _ => h1 w⟩) (wpAnyY_flow hs hQ r _ C D _ hst hDC hne hdn' hB' h2)
    · rw [if_neg hw] at h
      exact wpAnyY_first ho (Region.noSelect_spec hs) (fun c a w => hQ o (List.mem_of_getElem? ho') c a _ w) (entsLen r) listed C D a hst hDC (Region.free_spec ho hf) hr' hdn (.inr ⟨by simpa using hw, rfl⟩) (fun _ => .inr ⟨by simpa using hw, rfl⟩) (wpAnyY_flow hs hQ r _ C D _ hst hDC hne hdn' hB' h)
  | .alone i :: r, listed, C, D, a, hst, hDC, hne, hdn, hB, h => by
    simp only [flowB, Bool.and_eq_true, beq_iff_eq] at hB
    obtain ⟨hr, hB'⟩ := hB
    have hr' : i ∈ Region.ready md l.toArray listed := by rw [hr]; simp
    obtain ⟨_, o, ho, _⟩ := mem_ready.1 hr'
    have ho' : l[i]? = some o := by simpa using ho
    simp only [pickEnts, ho', wpFlow] at h
    refine ⟨fun h0 => (by rw [h0] at hr'; cases hr'), fun j hj w hw => ?_⟩
    rw [hr] at hj
    obtain rfl : j = i := by simpa using hj
    have hh := h w hw
    unfold wpOp
    simp only [ho]
    split
    · rename_i hwa
      rw [if_pos hwa] at hh
      exact .inl (Oper.wp_mono (fun a' w' ⟨C', D', k1, k2, k3, k4, k5⟩ => ⟨C', D', k1, .inl k2, k3, k4, wpAnyY_flow hs hQ r _ C' D' a' k1 k3 ⟨w', k4⟩ (hdn.set hr') hB' k5⟩) hh)
    · rename_i hwa
      rw [if_neg hwa] at hh
      exact ⟨C, D, hst, .inl fun _ h => h, hDC, hw, wpAnyY_flow hs hQ r _ C D _ hst hDC hne (hdn.set hr') hB' hh⟩
  | .fence i :: r, listed, C, D, a, hst, hDC, hne, hdn, hB, h => by
    simp only [flowB, Bool.and_eq_true, beq_iff_eq] at hB
    obtain ⟨⟨hr, hfe⟩, hB'⟩ := hB
    have hr' : i ∈ Region.ready md l.toArray listed := by rw [hr]; simp
    obtain ⟨_, o, ho, _⟩ := mem_ready.1 hr'
    have ho' : l[i]? = some o := by simpa using ho
    simp only [pickEnts, ho', wpFlow] at h
    refine ⟨fun h0 => (by rw [h0] at hr'; cases hr'), fun j hj w hw => ?_⟩
    rw [hr] at hj
    obtain rfl : j = i := by simpa using hj
    have hh := h w hw
    unfold wpOp
    simp only [ho]
    split
    · rename_i hwa
      rw [if_pos hwa] at hh
      exact .inl (Oper.wp_mono (fun a' w' ⟨C', D', k1, k3, k4, k5⟩ => ⟨C', D', k1, .inr (fenceE_of hfe), k3, k4, wpAnyY_flow hs hQ r _ C' D' a' k1 k3 ⟨w', k4⟩ (hdn.set hr') hB' k5⟩) hh)
    · rename_i hwa
      rw [if_neg hwa] at hh
      exact ⟨C, D, hst, .inl fun _ h => h, hDC, hw, wpAnyY_flow hs hQ r _ C D _ hst hDC hne (hdn.set hr') hB' hh⟩
  | .group g :: r, listed, C, D, a, hst, hDC, hne, hdn, hB, h => by
    simp only [flowB, Bool.and_eq_true] at hB
    obtain ⟨hg, hB'⟩ := hB
    obtain ⟨hok, hmap⟩ := groupOk_of hg
    simp only [pickEnts, wpFlow] at h
    obtain ⟨V, N, R, hV, hR, hm, hfin⟩ := h
    have hl : (fun i => (l[i]?).map fun o => (i, o)) = (fun i => (l.toArray[i]?).map fun o => (i, o)) := funext fun i => by rw [List.getElem?_toArray]
    rw [hl] at hR hm hfin
    have := wpAnyY_group (P := P) (E := fun k => deps.contains k) (Q := Q) hok (Region.noSelect_spec hs) hV hR hst hDC hm (f := entsLen r) (fun vs hex hrr => by
      rw [hmap]
      exact wpAnyY_flow hs hQ r _ C _ _ (fun x x' hx hb => ⟨hst _ _ hx.1 hb, fun p hp => hV _ _ _ _ (hx.2 p hp) hb⟩) (fun W hW => hDC W hW.1) hex (by have := down_setAll (md := md) (ops := l.toArray) g listed hdn (fun i hi => by have h1 := hok.ready; rw [← hmap] at hi; obtain ⟨p, hp, rfl⟩ := List.mem_map.1 hi; exact h1 p hp) (by have := hok.nodup; rwa [hmap] at this); exact this) hB' (hfin vs hex hrr)) g.length [] (g.filterMap fun i => (l.toArray[i]?).map fun o => (i, o)) (by rw [← congrArg List.length hmap, List.length_map]) (by simp) (fun _ => undef) (by obtain ⟨w, hw⟩ := hne; exact ⟨w, hw, fun p hp => by simp at hp⟩) (fun p hp => by simp at hp)
    simpa [putAll, setAll, entsLen] using this
  | .float i s :: r, listed, C, D, a, hst, hDC, hne, hdn, hB, h => by
    simp only [flowB, Bool.and_eq_true] at hB
    obtain ⟨hr, hg, hB'⟩ := hB
    have hr' : i ∈ Region.ready md l.toArray listed := by simpa using hr
    obtain ⟨_, o, ho, _⟩ := mem_ready.1 hr'
    have ho' : l[i]? = some o := by simpa using ho
    simp only [pickEnts, ho', wpFlow] at h
    obtain ⟨V, hV, hwn, hm, hh⟩ := h
    exact (wpAnyY_float (f := entsLen r) hs hQ ho hV s listed D a hst hDC hne hdn hr' hg hwn hm (fun D' a' k1 k2 k3 k4 k5 => wpAnyY_flow hs hQ r _ C D' a' k1 k2 k3 k4 hB' k5) hh).1

def calmsOf (s : List Ent) : List Nat := s.flatMap fun | .calm i => [i] | .float _ s => s.filterMap (fun | .calm i => some i | _ => none) | _ => []
/-- The walk that is left, shut. -/
structure Flow (P : Program) (ops : Array Oper) (Q : Exit → Act → World → Prop) (l : List EntO) (C D : World → Prop) (a : Act) : Prop where
  out : wpFlow P ops Q l C D a
theorem wp_region_flow {id : Nat} {l : List Oper} {a : Act} {w : World} (s : List Ent) (C D : World → Prop) (hst : Stable D) (hDC : ∀ W, D W → C W) (hm : P.follows .mixedOrders = true)
    (hB : (Region.noSelect l.toArray && ((entsLen s == l.length) && flowB .any l.toArray (calmsOf s) s (Array.replicate l.length false))) = true) (hD : D w.drew) (h : Flow P l.toArray (NoPanic Q) (pickEnts l s) C D a) : (Code.region id l.toArray true).wp P Q a w := by
  refine wp_region_noPanic ?_
  simp only [Bool.and_eq_true, beq_iff_eq] at hB
  obtain ⟨h1, h2, h3⟩ := hB
  refine wp_region_any hm (wpAnyY_sound (E := fun k => (calmsOf s).contains k) _ _ C D a _ hD ?_)
  have := wpAnyY_flow (md := .any) (Q := NoPanic Q) h1 (fun _ _ _ _ _ _ h => h) s _ C D a hst hDC ⟨_, hD⟩ (fun j o _ hj => by rw [Array.getD_eq_getD_getElem?, Array.getElem?_replicate] at hj; split at hj <;> simp at hj) h3 h.out
  rw [h2] at this
  simpa using this
/-- The same, where a panic may go through: what is said of a panic must not look at what the region's own operations yield. -/
theorem wp_region_flowP {id : Nat} {l : List Oper} {a : Act} {w : World} (s : List Ent) (C D : World → Prop) (hst : Stable D) (hDC : ∀ W, D W → C W) (hm : P.follows .mixedOrders = true)
    (hB : (Region.noSelect l.toArray && ((entsLen s == l.length) && flowB .any l.toArray (calmsOf s) s (Array.replicate l.length false))) = true) (hD : D w.drew) (hQ : ∀ o ∈ l, ∀ c a v w, Q (.panic c) (Act.put a o.dst v) w → Q (.panic c) a w)
    (h : Flow P l.toArray Q (pickEnts l s) C D a) : (Code.region id l.toArray true).wp P Q a w := by
  simp only [Bool.and_eq_true, beq_iff_eq] at hB
  obtain ⟨h1, h2, h3⟩ := hB
  refine wp_region_any hm (wpAnyY_sound (E := fun k => (calmsOf s).contains k) _ _ C D a _ hD ?_)
  have := wpAnyY_flow (md := .any) (Q := Q) h1 hQ s _ C D a hst hDC ⟨_, hD⟩ (fun j o _ hj => by rw [Array.getD_eq_getD_getElem?, Array.getElem?_replicate] at hj; split at hj <;> simp at hj) h3 h.out
  rw [h2] at this
  simpa using this
theorem flow_nilP {C D : World → Prop} {a : Act} (h : ∀ w, In D w → Q .normal a w) : Flow P ops Q [] C D a := ⟨fun w hw => h w ⟨hw⟩⟩
theorem flow_nil {C D : World → Prop} {a : Act} (h : ∀ w, In D w → Q .normal a w) : Flow P ops (NoPanic Q) [] C D a := ⟨fun w hw => h w ⟨hw⟩⟩
theorem flow_calm {C D : World → Prop} {a : Act} {o : Oper} {r : List EntO} (h : ∀ K : Act → Prop, (∀ a, Flow P ops Q r C D a → K a) → if Region.wanted o (yielded ops a.tmps) = true then ∃ v, (∀ w, In C w → calmAt P o a w v) ∧ K (a.put o.dst v) else K (a.put o.dst undef)) : Flow P ops Q (.calm o :: r) C D a := by
  have h1 := h _ fun _ h => h
  refine ⟨?_⟩
  unfold wpFlow
  split
  · rename_i hw
    rw [if_pos hw] at h1
    obtain ⟨v, h2, h3⟩ := h1
    exact ⟨v, fun w hw => h2 w ⟨hw⟩, h3.out⟩
  · rename_i hw
    rw [if_neg hw] at h1
    exact h1.out
theorem flow_alone {C D : World → Prop} {a : Act} {o : Oper} {r : List EntO} (hwa : Region.wanted o (yielded ops a.tmps) = true)
    (h : ∀ (w : World), In D w → ∀ K : Act → World → Prop, Shut (∀ a' w' (C' D' : World → Prop), Stable D' → (∀ W, C' W → C W) → (∀ W, D' W → C' W) → D' w' → Flow P ops Q r C' D' a' → K a' w') → if Region.wanted o (yielded ops a.tmps) = true then Oper.wp P o a w K Q else K (a.put o.dst undef) w) : Flow P ops Q (.alone o :: r) C D a := by
  refine ⟨fun w hw => ?_⟩
  rw [if_pos hwa]
  have := h w ⟨hw⟩ (fun a' w' => ∃ C' D' : World → Prop, Stable D' ∧ (∀ W, C' W → C W) ∧ (∀ W, D' W → C' W) ∧ D' w' ∧ wpFlow P ops Q r C' D' a') (fun a' w' C' D' k1 k2 k3 k4 k5 => ⟨C', D', k1, k2, k3, k4, k5.out⟩)
  rwa [if_pos hwa] at this
theorem flow_free {C D : World → Prop} {a : Act} {o : Oper} {r : List EntO} (h : ∀ K : Act → Prop, (∀ a, Flow P ops Q r C D a → K a) → if Region.wanted o (yielded ops a.tmps) = true then ∃ v, (∀ w, calmAt P o a w v) ∧ K (a.put o.dst v) else K (a.put o.dst undef)) : Flow P ops Q (.free o :: r) C D a := by
  have h1 := h _ fun _ h => h
  refine ⟨?_⟩
  unfold wpFlow
  split
  · rename_i hw
    rw [if_pos hw] at h1
    obtain ⟨v, h2, h3⟩ := h1
    exact ⟨v, h2, h3.out⟩
  · rename_i hw
    rw [if_neg hw] at h1
    exact h1.out
theorem flow_fence {C D : World → Prop} {a : Act} {o : Oper} {r : List EntO} (hwa : Region.wanted o (yielded ops a.tmps) = true)
    (h : ∀ (w : World), In D w → ∀ K : Act → World → Prop, Shut (∀ a' w' (C' D' : World → Prop), Stable D' → (∀ W, D' W → C' W) → D' w' → Flow P ops Q r C' D' a' → K a' w') → if Region.wanted o (yielded ops a.tmps) = true then Oper.wp P o a w K Q else K (a.put o.dst undef) w) : Flow P ops Q (.fence o :: r) C D a := by
  refine ⟨fun w hw => ?_⟩
  rw [if_pos hwa]
  have := h w ⟨hw⟩ (fun a' w' => ∃ C' D' : World → Prop, Stable D' ∧ (∀ W, D' W → C' W) ∧ D' w' ∧ wpFlow P ops Q r C' D' a') (fun a' w' C' D' k1 k3 k4 k5 => ⟨C', D', k1, k3, k4, k5.out⟩)
  rwa [if_pos hwa] at this
/-- Two that make memory; what a later one makes stands to what lay there as R says. -/
theorem flow_twoR {C D : World → Prop} {a : Act} {i j : Nat} {o p : Oper} {r : List EntO} (V U : Value → World → Prop) (N : World → Value → Prop) (R : Value → Value → Prop) (hV : StableV V) (hU : StableV U) (hij : i ≠ j)
    (hRV : ∀ v u w, V v w → N w u → R v u ∧ R u v) (hRU : ∀ v u w, U v w → N w u → R v u ∧ R u v)
    (h1 : Region.wanted o (yielded ops a.tmps) = true ∧ ∀ w, In D w → makesAt P o a w (fun u w' => V u w' ∧ N w u)) (h2 : Region.wanted p (yielded ops a.tmps) = true ∧ ∀ w, In D w → makesAt P p a w (fun u w' => U u w' ∧ N w u))
    (h : ∀ v u w, In D w → V v w → U u w → R v u → Flow P ops Q r C (fun w => D w ∧ V v w ∧ U u w) ((a.put o.dst v).put p.dst u)) : Flow P ops Q (.group [(i, o), (j, p)] :: r) C D a := by
  refine ⟨fun k => if k = i then V else U, N, R, fun k => by dsimp only; split; exact hV; exact hU, fun q hq v u w => by dsimp only; split; exact hRV v u w; exact hRU v u w, ?_, fun vs hex hrr => ?_⟩
  · intro q hq
    rcases List.mem_cons.1 hq with rfl | hq
    · exact ⟨h1.1, fun w hw => by simpa using h1.2 w ⟨hw⟩⟩
    · obtain rfl := List.mem_singleton.1 hq
      exact ⟨h2.1, fun w hw => by simpa [Ne.symm hij] using h2.2 w ⟨hw⟩⟩
  · obtain ⟨w0, hw0, hv0⟩ := hex
    have h3 := (h (vs i) (vs j) w0 ⟨hw0⟩ (by have := hv0 (i, o) List.mem_cons_self; simpa using this) (by have := hv0 (j, p) (List.mem_cons_of_mem _ List.mem_cons_self); simpa [Ne.symm hij] using this) (hrr (i, o) List.mem_cons_self (j, p) (List.mem_cons_of_mem _ List.mem_cons_self) hij)).out
    rw [show (fun w => D w ∧ ∀ q ∈ [(i, o), (j, p)], (if q.1 = i then V else U) (vs q.1) w) = (fun w => D w ∧ V (vs i) w ∧ U (vs j) w) from funext fun w => propext (by simp [Ne.symm hij])]
    exact h3
theorem makesUpon_mono {w : World} {V U : Value → World → Prop} (h : ∀ u w', V u w' → U u w') {x : Result Next} (hx : makesUpon P w V x) : makesUpon P w U x := by
  cases x with
  | ok nx w' =>
    cases nx <;> simp only [makesUpon] at hx ⊢
    case value u => exact ⟨hx.1, h _ _ hx.2⟩
    case enter fn args => exact ⟨hx.1, hx.2.mono fun e w'' ⟨u, a, b, c⟩ => ⟨u, a, b, h _ _ c⟩⟩
  | halt y w' => simp only [makesUpon] at hx
/-- Two that make memory. -/
theorem flow_two {C D : World → Prop} {a : Act} {i j : Nat} {o p : Oper} {r : List EntO} (V U : Value → World → Prop) (hV : StableV V) (hU : StableV U) (hij : i ≠ j)
    (h1 : Region.wanted o (yielded ops a.tmps) = true ∧ ∀ w, In D w → makesAt P o a w V) (h2 : Region.wanted p (yielded ops a.tmps) = true ∧ ∀ w, In D w → makesAt P p a w U)
    (h : ∀ v u w, In D w → V v w → U u w → Flow P ops Q r C (fun w => D w ∧ V v w ∧ U u w) ((a.put o.dst v).put p.dst u)) : Flow P ops Q (.group [(i, o), (j, p)] :: r) C D a :=
  flow_twoR V U (fun _ _ => True) (fun _ _ => True) hV hU hij (fun _ _ _ _ _ => ⟨trivial, trivial⟩) (fun _ _ _ _ _ => ⟨trivial, trivial⟩) ⟨h1.1, fun w hw => makesUpon_mono (fun _ _ h => ⟨h, trivial⟩) (h1.2 w hw)⟩ ⟨h2.1, fun w hw => makesUpon_mono (fun _ _ h => ⟨h, trivial⟩) (h2.2 w hw)⟩ (fun v u w a b c _ => h v u w a b c)
/-- One that makes memory. -/
theorem flow_one {C D : World → Prop} {a : Act} {i : Nat} {o : Oper} {r : List EntO} (V : Value → World → Prop) (hV : StableV V)
    (h1 : Region.wanted o (yielded ops a.tmps) = true ∧ ∀ w, In D w → makesAt P o a w V)
    (h : ∀ v w, In D w → V v w → Flow P ops Q r C (fun w => D w ∧ V v w) (a.put o.dst v)) : Flow P ops Q (.group [(i, o)] :: r) C D a := by
  refine ⟨fun k => V, fun _ _ => True, fun _ _ => True, fun k => hV, fun _ _ _ _ _ _ _ => ⟨trivial, trivial⟩, ?_, fun vs hex _ => ?_⟩
  · intro q hq
    obtain rfl := List.mem_singleton.1 hq
    exact ⟨h1.1, fun w hw => makesUpon_mono (fun _ _ h => ⟨h, trivial⟩) (h1.2 w ⟨hw⟩)⟩
  · obtain ⟨w0, hw0, hv0⟩ := hex
    have h3 := (h (vs i) w0 ⟨hw0⟩ (by simpa using hv0)).out
    rw [show (fun w => D w ∧ ∀ q ∈ [(i, o)], V (vs q.1) w) = (fun w => D w ∧ V (vs i) w) from funext fun w => propext (by simp)]
    exact h3
/-- The walk while one that makes memory has not come up, shut. -/
structure Float (P : Program) (ops : Array Oper) (oi : Oper) (V : Value → World → Prop) (C : World → Prop) (K : (World → Prop) → Act → Prop) (l : List EntFO) (D : World → Prop) (a : Act) : Prop where
  out : wpFloat P ops oi V C K l D a
theorem wpFloat_mono {oi : Oper} {V : Value → World → Prop} {C : World → Prop} {K K' : (World → Prop) → Act → Prop} (hK : ∀ D a, K D a → K' D a) : ∀ (l : List EntFO) (D : World → Prop) (a : Act), wpFloat P ops oi V C K l D a → wpFloat P ops oi V C K' l D a
  | [], D, a, h => fun v hv => hK _ _ (h v hv)
  | .calm o :: r, D, a, h => by
    unfold wpFloat at h ⊢
    split at h
    · rename_i hw; rw [if_pos hw]; obtain ⟨v, h1, h2⟩ := h; exact ⟨v, h1, wpFloat_mono hK r _ _ h2⟩
    · rename_i hw; rw [if_neg hw]; exact wpFloat_mono hK r _ _ h
  | .free o :: r, D, a, h => by
    unfold wpFloat at h ⊢
    split at h
    · rename_i hw; rw [if_pos hw]; obtain ⟨v, h1, h2⟩ := h; exact ⟨v, h1, wpFloat_mono hK r _ _ h2⟩
    · rename_i hw; rw [if_neg hw]; exact wpFloat_mono hK r _ _ h
  | .one o :: r, D, a, h => by
    unfold wpFloat at h ⊢
    obtain ⟨U, h1, h2, h3, h4⟩ := h
    exact ⟨U, h1, h2, h3, fun u hu => wpFloat_mono hK r _ _ (h4 u hu)⟩
/-- One that makes memory, at any time while others come up. -/
theorem flow_float {C D : World → Prop} {a : Act} {o : Oper} {s : List EntFO} {r : List EntO} (V : Value → World → Prop) (hV : StableV V)
    (h1 : Region.wanted o (yielded ops a.tmps) = true ∧ ∀ w, In D w → makesAt P o a w V)
    (h : Float P ops o V C (fun D' a' => Flow P ops Q r C D' a') s D a) : Flow P ops Q (.float o s :: r) C D a :=
  ⟨⟨V, hV, h1.1, fun w hw => h1.2 w ⟨hw⟩, wpFloat_mono (fun D a h => h.out) _ _ _ h.out⟩⟩
theorem float_calm {oi : Oper} {V : Value → World → Prop} {C : World → Prop} {K0 : (World → Prop) → Act → Prop} {D : World → Prop} {a : Act} {o : Oper} {r : List EntFO} (h : ∀ K : Act → Prop, (∀ a, Float P ops oi V C K0 r D a → K a) → if Region.wanted o (yielded ops a.tmps) = true then ∃ v, (∀ w, In C w → calmAt P o a w v) ∧ K (a.put o.dst v) else K (a.put o.dst undef)) : Float P ops oi V C K0 (.calm o :: r) D a := by
  have h1 := h _ fun _ h => h
  refine ⟨?_⟩
  unfold wpFloat
  split
  · rename_i hw
    rw [if_pos hw] at h1
    obtain ⟨v, h2, h3⟩ := h1
    exact ⟨v, fun w hw => h2 w ⟨hw⟩, h3.out⟩
  · rename_i hw
    rw [if_neg hw] at h1
    exact h1.out
theorem float_free {oi : Oper} {V : Value → World → Prop} {C : World → Prop} {K0 : (World → Prop) → Act → Prop} {D : World → Prop} {a : Act} {o : Oper} {r : List EntFO} (h : ∀ K : Act → Prop, (∀ a, Float P ops oi V C K0 r D a → K a) → if Region.wanted o (yielded ops a.tmps) = true then ∃ v, (∀ w, calmAt P o a w v) ∧ K (a.put o.dst v) else K (a.put o.dst undef)) : Float P ops oi V C K0 (.free o :: r) D a := by
  have h1 := h _ fun _ h => h
  refine ⟨?_⟩
  unfold wpFloat
  split
  · rename_i hw
    rw [if_pos hw] at h1
    obtain ⟨v, h2, h3⟩ := h1
    exact ⟨v, h2, h3.out⟩
  · rename_i hw
    rw [if_neg hw] at h1
    exact h1.out
theorem float_one {oi : Oper} {V : Value → World → Prop} {C : World → Prop} {K0 : (World → Prop) → Act → Prop} {D : World → Prop} {a : Act} {o : Oper} {r : List EntFO} (U : Value → World → Prop) (hU : StableV U)
    (h1 : Region.wanted o (yielded ops a.tmps) = true ∧ ∀ w, In D w → makesAt P o a w U)
    (h : ∀ v w, In D w → U v w → Float P ops oi V C K0 r (fun w => D w ∧ U v w) (a.put o.dst v)) : Float P ops oi V C K0 (.one o :: r) D a :=
  ⟨⟨U, hU, h1.1, fun w hw => h1.2 w ⟨hw⟩, fun u ⟨w, hw, hu⟩ => (h u w ⟨hw⟩ hu).out⟩⟩
theorem float_land {oi : Oper} {V : Value → World → Prop} {C : World → Prop} {K0 : (World → Prop) → Act → Prop} {D : World → Prop} {a : Act} (h : ∀ v w, In D w → V v w → K0 (fun w => D w ∧ V v w) (a.put oi.dst v)) : Float P ops oi V C K0 [] D a :=
  ⟨fun v ⟨w, hw, hv⟩ => h v w ⟨hw⟩ hv⟩
end
end Go.Proofs.Ytemkloildadokaa
set_option linter.unusedVariables false
set_option linter.unusedSimpArgs false
/-! Maps that a call makes, as association lists in the order in which keys came: look-up, store. -/
namespace Go.Proofs.Ytemkloildadokaa
open Go.RowKit Go.Instr Go.MapKept

/-- The entries of a map object: keys in the order in which they came. -/
def entsFrom {κ : Type} (enc : κ → Value) : Nat → List (κ × Value) → List MapEntry
  | _, [] => []
  | i, (k, v) :: l => ⟨enc k, v, i⟩ :: entsFrom enc (i + 1) l
def mapObj {κ : Type} (enc : κ → Value) (l : List (κ × Value)) : Obj := .map (entsFrom enc 0 l).toArray l.length
/-- Where a key is, and what it has. -/
def findI {κ : Type} [DecidableEq κ] (k : κ) : List (κ × Value) → Nat → Option (Nat × Value)
  | [], _ => none
  | (a, v) :: l, i => if k = a then some (i, v) else findI k l (i + 1)
def aget {κ ν : Type} [DecidableEq κ] (k : κ) : List (κ × ν) → Option ν
  | [] => none
  | (a, v) :: l => if k = a then some v else aget k l
def aput {κ ν : Type} [DecidableEq κ] (k : κ) (v : ν) : List (κ × ν) → List (κ × ν)
  | [] => [(k, v)]
  | (a, x) :: l => if k = a then (a, v) :: l else (a, x) :: aput k v l
theorem entsFrom_length {κ : Type} (enc : κ → Value) (l : List (κ × Value)) : ∀ i, (entsFrom enc i l).length = l.length := by
  induction l with
  | nil => intro i; rfl
  | cons p l ih => intro i; obtain ⟨k, v⟩ := p; simp [entsFrom, ih]
theorem findI_aget {κ : Type} [DecidableEq κ] (k : κ) (l : List (κ × Value)) : ∀ i, (findI k l i).map (·.2) = aget k l := by
  induction l with
  | nil => intro i; rfl
  | cons p l ih => intro i; obtain ⟨a, v⟩ := p; simp only [findI, aget]; split <;> simp [ih]
theorem aput_length_of_none {κ : Type} [DecidableEq κ] (k : κ) (v : Value) (l : List (κ × Value)) (h : aget k l = none) : aput k v l = l ++ [(k, v)] := by
  induction l with
  | nil => rfl
  | cons p l ih =>
    obtain ⟨a, x⟩ := p
    simp only [aget] at h
    split at h
    · cases h
    · rename_i hne; simp only [aput, if_neg hne, ih h, List.cons_append]
theorem entsFrom_append {κ : Type} (enc : κ → Value) (k : κ) (v : Value) (l : List (κ × Value)) : ∀ i, entsFrom enc i (l ++ [(k, v)]) = entsFrom enc i l ++ [⟨enc k, v, i + l.length⟩] := by
  induction l with
  | nil => intro i; simp [entsFrom]
  | cons p l ih => intro i; obtain ⟨a, x⟩ := p; simp [entsFrom, ih]; omega
theorem entsFrom_put {κ : Type} [DecidableEq κ] (enc : κ → Value) (k : κ) (v : Value) (l : List (κ × Value)) : ∀ i j x, findI k l i = some (j, x) →
    i ≤ j ∧ entsFrom enc i (aput k v l) = (entsFrom enc i l).modify (j - i) (fun e => { e with key := enc k, val := v }) ∧ (aput k v l).length = l.length ∧ ((entsFrom enc i l)[j - i]?).map (·.key) = some (enc k) := by
  induction l with
  | nil => intro i j x h; simp [findI] at h
  | cons p l ih =>
    intro i j x h
    obtain ⟨a, y⟩ := p
    simp only [findI] at h
    split at h
    · rename_i e
      subst e
      simp only [Option.some.injEq, Prod.mk.injEq] at h
      obtain ⟨rfl, rfl⟩ := h
      refine ⟨Nat.le_refl _, ?_, ?_, ?_⟩ <;> simp [aput, entsFrom]
    · rename_i hne
      obtain ⟨h1, h2, h3, h4⟩ := ih _ _ _ h
      have e : j - i = (j - (i + 1)) + 1 := by omega
      refine ⟨by omega, ?_, ?_, ?_⟩
      · simp only [aput, if_neg hne, entsFrom]
        rw [h2, e]
        rfl
      · simp [aput, if_neg hne, h3]
      · rw [e]; simpa [entsFrom] using h4

/-- What a key's type must give: a key is checked, found, and stays. -/
structure KeyT (P : Program) (T : TypeId) {κ : Type} [DecidableEq κ] (enc : κ → Value) : Prop where
  check : ∀ em k w, (checkKey em 10000 T (enc k)).run P w = .ok () w
  find : ∀ (l : List (κ × Value)) (k : κ) (w : World), (findKey T (enc k) (entsFrom enc 0 l)).run P w = .ok (findI k l 0) w
  stays : ∀ k w, (keyThatStays (enc k) (enc k)).run P w = .ok (enc k) w

/-- Keys of the kind int. -/
theorem keyT_int {P : Program} {T : TypeId} (hT : P.underlying T = some (.int .i64)) : KeyT P T (Value.int .i64) where
  check := fun em k w => run_checkKey hT (by simp [IsKey]) em 9999
  find := by
    intro l k w
    have key : ∀ (l : List (Int × Value)) (i : Nat), findNow (.int .i64) (.int .i64 k) (entsFrom (Value.int .i64) i l) i = some (findI k l i) := by
      intro l
      induction l with
      | nil => intro i; rfl
      | cons p l ih =>
        intro i
        obtain ⟨a, v⟩ := p
        simp only [entsFrom, findNow, sameNow, if_true, findI]
        by_cases h : k = a
        · simp [h]
        · have : (k == a) = false := by simpa using h
          simp only [this, if_neg h]
          exact ih (i + 1)
    exact run_findKey hT (key l 0)
  stays := fun k w => by simp [keyThatStays, sameBits]

/-- Keys that are structs. -/
theorem keyT_struct {P : Program} {T : TypeId} {κ : Type} [DecidableEq κ] {enc : κ → Value} {fs : Array Field} (hT : P.underlying T = some (.struct fs))
    (hag : ∀ k, ∃ cs, enc k = .agg cs)
    (hc : ∀ em k w, (checkKey em 10000 T (enc k)).run P w = .ok () w) (he : ∀ a b w, (Op.equal T (enc a) (enc b)).run P w = .ok (decide (a = b)) w) (hs : ∀ k, sameBits 10000 (enc k) (enc k) = true) : KeyT P T enc where
  check := hc
  find := by
    intro l k w
    have key : ∀ (l : List (κ × Value)) (i : Nat), (findAsking T (enc k) (entsFrom enc i l) i).run P w = .ok (findI k l i) w := by
      intro l
      induction l with
      | nil => intro i; rfl
      | cons p l ih =>
        intro i
        obtain ⟨a, v⟩ := p
        simp only [entsFrom, findAsking, Sem.run_bind, he, Result.andThen_ok, findI]
        by_cases h : k = a
        · simp [h]
        · simp only [decide_eq_false h, if_neg h]
          exact ih (i + 1)
    cases l with
    | nil => simp [findKey, run_underlying hT, entsFrom, findNow, findI]
    | cons p l =>
      have hn : findNow (.struct fs) (enc k) (entsFrom enc 0 (p :: l)) 0 = none := by
        obtain ⟨a, v⟩ := p
        obtain ⟨cs, hcs⟩ := hag k
        simp [entsFrom, findNow, sameNow, hcs]
      simp only [findKey, Sem.run_bind, run_underlying hT, Result.andThen_ok, hn]
      exact key (p :: l) 0
  stays := fun k w => by simp [keyThatStays, hs]

section
variable {P : Program} {T KT ET : TypeId} {κ : Type} [DecidableEq κ] {enc : κ → Value}

theorem run_lookup_map (hk : KeyT P KT enc) (hT : P.underlying T = some (.map KT ET)) {z : Value} (hz : ∀ w, (zeroValue ET).run P w = .ok z w) (l : List (κ × Value)) (b : Nat) (k : κ) (ok : Bool) (w : World) (hb : w.heap[b]? = some (mapObj enc l)) :
    (lookup T (.map (some b)) (enc k) ok).run P w = .ok (if ok then .tuple #[(aget k l).getD z, .bool (aget k l).isSome] else (aget k l).getD z) w := by
  have hg : (getObj b).run P w = .ok (mapObj enc l) w := by simp [getObj, Sem.run, hb, mapObj]
  have ha := findI_aget k l 0
  have h1 := hk.find l k w
  simp only [lookup, Sem.run_bind, run_underlying hT, Result.andThen_ok, hg, mapObj, Sem.run_pure, hk.check, h1]
  rw [← ha]
  rcases hfi : findI k l 0 with _ | ⟨i, v⟩
  · simp [hz, Result.andThen]
  · simp [Result.andThen]

theorem run_mapUpdate_map (hk : KeyT P KT enc) (hT : P.underlying T = some (.map KT ET)) (l : List (κ × Value)) (b : Nat) (k : κ) (v : Value) (w : World) (hb : w.heap[b]? = some (mapObj enc l)) :
    (mapUpdate T (.map (some b)) (enc k) v).run P w = .ok () { w with heap := w.heap.setIfInBounds b (mapObj enc (aput k v l)) } := by
  have hg : (getObj b).run P w = .ok (mapObj enc l) w := by simp [getObj, Sem.run, hb, mapObj]
  have ha := findI_aget k l 0
  have h1 := hk.find l k w
  simp only [mapUpdate, Sem.run_bind, run_underlying hT, Result.andThen_ok, hg, mapObj, hk.check, h1]
  rcases hfi : findI k l 0 with _ | ⟨i, x⟩
  · rw [hfi] at ha
    have he := aput_length_of_none k v l (by simpa using ha.symm)
    simp only [run_setObj_map _ hb]
    rw [he, entsFrom_append]
    simp
  · obtain ⟨_, h2, h3, h4⟩ := entsFrom_put enc k v l 0 i x hfi
    simp only [Nat.sub_zero] at h2 h4
    have h5 : (((entsFrom enc 0 l).toArray[i]?).map (·.key)).getD (enc k) = enc k := by
      have : (entsFrom enc 0 l).toArray[i]? = (entsFrom enc 0 l)[i]? := by simp
      rw [this, h4]; rfl
    simp only [Sem.run_bind, h5, hk.stays, Result.andThen_ok, run_setObj_map _ hb, h3, h2]
    simp
end
/-- The world behind a store into a map. -/
def putMap (w : World) (b : Nat) (o : Obj) : World := { w with heap := w.heap.setIfInBounds b o }
@[go_sem] theorem putMap_size (w : World) (b : Nat) (o : Obj) : (putMap w b o).heap.size = w.heap.size := by simp [putMap]
theorem putMap_at {w : World} {b : Nat} {o' : Obj} (h : w.heap[b]? = some o') (o : Obj) : (putMap w b o).heap[b]? = some o := by
  have hb : b < w.heap.size := (Array.getElem?_eq_some_iff.1 h).1
  simp [putMap, hb]
theorem putMap_here {w : World} {b : Nat} (h : b < w.heap.size) (o : Obj) : (putMap w b o).heap[b]? = some o := by simp [putMap, h]
theorem putMap_ne (w : World) {b i : Nat} (h : i ≠ b) (o : Obj) : (putMap w b o).heap[i]? = w.heap[i]? := by
  simp [putMap, Array.getElem?_setIfInBounds_ne (Ne.symm h)]
theorem putMap_cell {κ : Type} {enc : κ → Value} {w : World} {b : Nat} {l : List (κ × Value)} (h : w.heap[b]? = some (mapObj enc l)) (l' : List (κ × Value)) (a : Addr) : (putMap w b (mapObj enc l')).cell? a = w.cell? a := by
  by_cases e : a.block = b
  · subst e; simp only [World.cell?, putMap_at h, h, mapObj]
  · simp only [World.cell?, putMap_ne w e]
theorem putMap_frozen {κ : Type} {enc : κ → Value} {w : World} {b : Nat} {l : List (κ × Value)} (h : w.heap[b]? = some (mapObj enc l)) (l' : List (κ × Value)) (a : Addr) : (putMap w b (mapObj enc l')).frozen? a = w.frozen? a := by
  by_cases e : a.block = b
  · subst e; simp only [World.frozen?, putMap_at h, h, mapObj]
  · simp only [World.frozen?, putMap_ne w e]
theorem below_putMap {B : Nat} {w W : World} (h : Below B w W) {b : Nat} (hb : B ≤ b) (o : Obj) : Below B w (putMap W b o) :=
  ⟨h.os, h.tape, h.output, by rw [putMap_size]; exact h.size, fun k hk => by rw [putMap_ne W (by omega)]; exact h.block k hk⟩

section
variable {P : Program} {ops : Array Oper} {rest : List Oper} {o : Oper} {a : Act} {Q : Exit → Act → World → Prop} {T KT ET : TypeId} {κ : Type} [DecidableEq κ] {enc : κ → Value}
/-- Guards: the next operation is a store into a map, a look-up. -/
theorem at_ins {m x v : Operand} (hop : o.op = Op.insert T m x v) {w : World} (h : wpList P ops Q (o :: rest) a w) : wpList P ops Q (o :: rest) a w := h
theorem at_upd {m x v : Operand} (hop : o.op = Op.mapUpdate T m x v) {w : World} (h : wpList P ops Q (o :: rest) a w) : wpList P ops Q (o :: rest) a w := h
theorem at_lku {m x : Operand} {ok : Bool} (hop : o.op = Op.lookup T m x ok) {w : World} (h : wpList P ops Q (o :: rest) a w) : wpList P ops Q (o :: rest) a w := h
theorem wpList_insert_map (hk : KeyT P KT enc) (hT : P.underlying T = some (.map KT ET)) (w : World) (hg : o.guard = none) (m x v : Operand) (hop : o.op = Op.insert T m x v)
    (b : Nat) (hm : a.eval m = .map (some b)) (k : κ) (hx : a.eval x = enc k) (y : Value) (hv : a.eval v = y) (l : List (κ × Value)) (hb : w.heap[b]? = some (mapObj enc l))
    (hK : wpList P ops Q rest (a.put o.dst undef) (putMap w b (mapObj enc (aput k y l)))) : wpList P ops Q (o :: rest) a w := by
  refine wpList_plain hg fun K' hK' => ?_
  have h := run_mapUpdate_map hk hT l b k y w hb
  unfold Oper.wp
  simp only [execOp, hop, hm, hx, hv, Sem.run_bind, h, Result.andThen_ok, Sem.run_pure]
  exact hK' _ _ hK
theorem wpList_update_map (hk : KeyT P KT enc) (hT : P.underlying T = some (.map KT ET)) (w : World) (hg : o.guard = none) (m x v : Operand) (hop : o.op = Op.mapUpdate T m x v)
    (b : Nat) (hm : a.eval m = .map (some b)) (k : κ) (hx : a.eval x = enc k) (y : Value) (hv : a.eval v = y) (l : List (κ × Value)) (hb : w.heap[b]? = some (mapObj enc l))
    (hK : wpList P ops Q rest (a.put o.dst undef) (putMap w b (mapObj enc (aput k y l)))) : wpList P ops Q (o :: rest) a w := by
  refine wpList_plain hg fun K' hK' => ?_
  have h := run_mapUpdate_map hk hT l b k y w hb
  unfold Oper.wp
  simp only [execOp, hop, hm, hx, hv, Sem.run_bind, h, Result.andThen_ok, Sem.run_pure]
  exact hK' _ _ hK
theorem wpList_lookup_map (hk : KeyT P KT enc) (hT : P.underlying T = some (.map KT ET)) {z : Value} (hz : ∀ w, (zeroValue ET).run P w = .ok z w) (w : World) (hg : o.guard = none) (m x : Operand) (ok : Bool) (hop : o.op = Op.lookup T m x ok)
    (b : Nat) (hm : a.eval m = .map (some b)) (k : κ) (hx : a.eval x = enc k) (l : List (κ × Value)) (hb : w.heap[b]? = some (mapObj enc l)) (r : Option Value) (hr : aget k l = r)
    (hK : wpList P ops Q rest (a.put o.dst (if ok then .tuple #[r.getD z, .bool r.isSome] else r.getD z)) w) : wpList P ops Q (o :: rest) a w := by
  subst hr
  refine wpList_plain hg fun K' hK' => ?_
  have h := run_lookup_map hk hT hz l b k ok w hb
  unfold Oper.wp
  simp only [execOp, hop, hm, hx, Sem.run_bind, h, Result.andThen_ok, Sem.run_pure]
  exact hK' _ _ hK
end
/-- As run equations, for a walk's context. -/
theorem run_lookup_is {P : Program} {T KT ET : TypeId} {κ : Type} [DecidableEq κ] {enc : κ → Value} (hk : KeyT P KT enc) (hT : P.underlying T = some (.map KT ET)) {z : Value} (hz : ∀ w, (zeroValue ET).run P w = .ok z w) {l : List (κ × Value)} {b : Nat} {k : κ} {r : Option Value} (hr : aget k l = r) {w : World} (hb : w.heap[b]? = some (mapObj enc l)) :
    (lookup T (.map (some b)) (enc k) true).run P w = .ok (.tuple #[r.getD z, .bool r.isSome]) w := by
  subst hr
  exact run_lookup_map hk hT hz l b k true w hb
theorem run_store_is {P : Program} {T KT ET : TypeId} {κ : Type} [DecidableEq κ] {enc : κ → Value} (hk : KeyT P KT enc) (hT : P.underlying T = some (.map KT ET)) {l : List (κ × Value)} {b : Nat} {k : κ} {v : Value} {w : World} (hb : w.heap[b]? = some (mapObj enc l)) :
    (mapUpdate T (.map (some b)) (enc k) v).run P w = .ok () (putMap w b (mapObj enc (aput k v l))) := run_mapUpdate_map hk hT l b k v w hb
end Go.Proofs.Ytemkloildadokaa
set_option linter.unusedVariables false
set_option linter.unusedSimpArgs false
/-! Ranges over functions: the marks that they leave among the deferred calls; rows of the call's own in the rounds. -/
namespace Go.Proofs.Ytemkloildadokaa
open Go.RowKit Go.Shelf Go.Proofs.YtemkloildadokaaW.PrintWords

theorem wide_fn (f : FuncId) : Fence.wide.fn f = True := rfl
theorem wide_depth : Fence.wide.depth = none := rfl
attribute [go_sem] wide_fn wide_depth Fence.inRound_fn Fence.inRound_depth
theorem below_base {B : Nat} {w W W' : World} (h : Below B w W) (hB : Below W.heap.size W W') (hle : B ≤ W.heap.size) : Below B w W' := h.trans (hB.mono hle)
theorem abides_below {β : Type} {B : Nat} {J : β → World → Prop} (hJ : AbidesFrom B J) {s : β} {W W' : World} (hs : J s W) (hb : Below W.heap.size W W') : J s W' :=
  hJ s W W' none hs ⟨hb.os, hb.tape, hb.output, hb.size, fun k hk _ => hb.block k hk⟩ (fun r h => by cases h)
theorem cell_keep {w wr : World} (hB : Below w.heap.size w wr) {p : Addr} {v : Value} (h : w.cell? p = some v) : wr.cell? p = some v := (hB.cell (World.block_lt_of_cell? w _ h)).trans h
/-- Cells lie as they lay. -/
def KeepsCells (w w' : World) : Prop := ∀ (k : Nat) (o : Obj), w.heap[k]? = some o → o.isCells = true → w'.heap[k]? = some o
theorem R_cells {α : Type} {d : Kd α} {e : Nat} {w w1 : World} {base : Nat} {ok : Nat → Prop} {v : Value} {xs : List α} (h : d.R e w base ok v xs) (hk : KeepsCells w w1) : d.R e w1 base ok v xs :=
  Kd.R_mono (Kd.R_move (Kd.R_bound h) (fun k ⟨_, _, _, q, _, cells, hc⟩ => (hk k _ hc rfl).trans hc.symm)) (fun _ hk => hk.1)
theorem R_turned {α : Type} {d : Kd α} {e : Nat} {w w1 : World} {base : Nat} {ok : Nat → Prop} {v : Value} {xs : List α} (h : d.R e w base ok v xs) {row : Option Nat} (hg : w.grownBy w1 row) (hr : ∀ r, row = some r → ∃ o : Obj, w.heap[r]? = some o ∧ o.isCells = false) : d.R e w1 base ok v xs :=
  R_cells h fun k o hk ho => (hg.block k (Array.getElem?_eq_some_iff.1 hk).1 (fun e => by
    obtain ⟨o', h1, h2⟩ := hr k e.symm
    rw [hk] at h1; cases h1; rw [ho] at h2; cases h2)).trans hk
theorem R_ne_lt {α : Type} {d : Kd α} {e : Nat} {w : World} {base : Nat} {ok : Nat → Prop} {v : Value} {xs : List α} (h : d.R e w base ok v xs) {b : Nat} (hb : b < base) : some b ≠ v.ownBlock := fun e => by
  have := ((Kd.R_bound h).1 b e.symm).2.1
  omega
theorem R_slice' {α : Type} {d : Kd α} {e : Nat} {w : World} {base : Nat} {ok : Nat → Prop} {v : Value} {xs : List α} (h : d.R e w base ok v xs) : ∃ A n c, v = .slice A n c := by
  obtain ⟨A, c, he⟩ := Kd.R_slice h
  exact ⟨A, _, c, he⟩
/-- The marks that ranges over functions have left. -/
structure Marks (n0 : Nat) (w : World) (Ds : List Nat) : Prop where
  nodup : Ds.Nodup
  held : ∀ D ∈ Ds, n0 ≤ D ∧ w.heap[D]? = some (.deferred (some []))
def markDefers (Ds : List Nat) : List Deferred := Ds.map fun D => { target := .collected D, args := #[] }
theorem Marks.none (n0 : Nat) (w : World) : Marks n0 w [] := ⟨List.nodup_nil, fun _ h => by simp at h⟩
theorem Marks.cons {n0 B : Nat} {w : World} {Ds : List Nat} (h : Marks n0 w Ds) (hlt : ∀ E ∈ Ds, E < B) {D : Nat} (hD : B ≤ D) (hn : n0 ≤ B) (hK : w.heap[D]? = some (.deferred (some []))) : Marks n0 w (D :: Ds) :=
  ⟨List.nodup_cons.2 ⟨fun hm => by have := hlt D hm; omega, h.nodup⟩, fun E hE => by
    rcases List.mem_cons.1 hE with rfl | hE
    · exact ⟨by omega, hK⟩
    · exact h.held E hE⟩
theorem Marks.keep {n0 : Nat} {w w' : World} {Ds : List Nat} (h : Marks n0 w Ds) (hk : ∀ (k : Nat) (o : Obj), w.heap[k]? = some o → o.isCells = false → w'.heap[k]? = some o) : Marks n0 w' Ds :=
  ⟨h.nodup, fun E hE => ⟨(h.held E hE).1, hk E _ (h.held E hE).2 rfl⟩⟩
theorem Marks.below {n0 : Nat} {w w' : World} {Ds : List Nat} (h : Marks n0 w Ds) (hk : Below w.heap.size w w') : Marks n0 w' Ds :=
  h.keep fun k o hk' _ => (hk.block k (Array.getElem?_eq_some_iff.1 hk').1).trans hk'
theorem Marks.turned {n0 B : Nat} {w w' : World} {Ds : List Nat} (h : Marks n0 w Ds) (hB : ∀ D ∈ Ds, D < B) {row : Option Nat} (hg : w.grownBy w' row) (hr : ∀ r, row = some r → B ≤ r) : Marks n0 w' Ds :=
  ⟨h.nodup, fun E hE => ⟨(h.held E hE).1, (hg.block E (Array.getElem?_eq_some_iff.1 (h.held E hE).2).1 (fun e => by have := hr E e.symm; have := hB E hE; omega)).trans (h.held E hE).2⟩⟩
theorem Marks.lt {n0 : Nat} {w : World} {Ds : List Nat} (h : Marks n0 w Ds) : ∀ D ∈ Ds, D < w.heap.size := fun D hD => (Array.getElem?_eq_some_iff.1 (h.held D hD).2).1
theorem Marks.others {n0 : Nat} {w w' : World} {Ds : List Nat} (h : Marks n0 w Ds) (hk : KeepsOthers w w') : Marks n0 w' Ds := h.keep hk.same
theorem R_keeps {α : Type} {d : Kd α} {e : Nat} {w w1 : World} {base : Nat} {ok : Nat → Prop} {v : Value} {xs : List α} (h : d.R e w base ok v xs) (hg : w.grownBy w1 v.ownBlock) : KeepsOthers w w1 :=
  ⟨hg.size, fun k o hk ho => (hg.block k (Array.getElem?_eq_some_iff.1 hk).1 (fun e => by
    obtain ⟨_, _, _, q, _, cells, hc⟩ := (Kd.R_bound h).1 k e.symm
    rw [hk] at hc; cases hc; cases ho)).trans hk⟩
theorem R_set_low {α : Type} {d : Kd α} {e : Nat} {w : World} {base : Nat} {ok : Nat → Prop} {v : Value} {xs : List α} (h : d.R e w base ok v xs) {p : Addr} (hb : p.block < base) (u : Value) : d.R e (w.setCell p u) base ok v xs :=
  Kd.R_mono (Kd.R_far (Kd.R_bound h) (fun k hk => by have := hk.2.1; omega) u) (fun _ hk => hk.1)
/-- A block of cells that is known whole. -/
def Cells (W : World) (B : Nat) (cs : Array Value) (t : TypeId) : Prop := W.heap[B]? = some (.cells cs t (0, 0))
theorem Cells.turned {W W' : World} {B : Nat} {cs : Array Value} {t : TypeId} (h : Cells W B cs t) {row : Option Nat} (hg : W.grownBy W' row) (hr : ∀ r, row = some r → ∃ o : Obj, W.heap[r]? = some o ∧ o.isCells = false) : Cells W' B cs t :=
  (hg.block B (Array.getElem?_eq_some_iff.1 h).1 (fun e => by
    obtain ⟨o, h1, h2⟩ := hr B e.symm
    rw [show W.heap[B]? = _ from h] at h1; cases h1; cases h2)).trans h
theorem Cells.later {W W' : World} {B : Nat} {cs : Array Value} {t : TypeId} (h : Cells W B cs t) (hb : Below W.heap.size W W') : Cells W' B cs t := (hb.block B (Array.getElem?_eq_some_iff.1 h).1).trans h
theorem Cells.lt {W : World} {B : Nat} {cs : Array Value} {t : TypeId} (h : Cells W B cs t) : B < W.heap.size := (Array.getElem?_eq_some_iff.1 h).1
theorem Cells.new (W : World) (cs : Array Value) (t : TypeId) : Cells (W.alloc (.cells cs t)) W.heap.size cs t := heap_alloc_new W (.cells cs t)
theorem Cells.cell {W : World} {B : Nat} {cs : Array Value} {t : TypeId} (h : Cells W B cs t) (k : Nat) (v : Value) (hk : cs[k]? = some v) : W.cell? ⟨B, k, none⟩ = some v := by simp [World.cell?, show W.heap[B]? = _ from h, hk]
theorem Cells.frozen {W : World} {B : Nat} {cs : Array Value} {t : TypeId} (h : Cells W B cs t) (k : Nat) : W.frozen? ⟨B, k, none⟩ = false := by simp [World.frozen?, show W.heap[B]? = _ from h]
theorem Cells.kept {W W' : World} {B : Nat} {cs : Array Value} {t : TypeId} (h : Cells W B cs t) {row : Option Nat} (hg : W.grownBy W' row) (hne : some B ≠ row) : Cells W' B cs t := (hg.block B h.lt hne).trans h
theorem Cells.set {W : World} {B : Nat} {v : Value} {t : TypeId} (h : Cells W B #[v] t) (u : Value) : Cells (W.setCell ⟨B, 0, none⟩ u) B #[u] t := by
  have hl := h.lt
  unfold Cells at h ⊢
  have h2 : W.heap[B] = Obj.cells #[v] t (0, 0) := by simpa [Array.getElem?_eq_getElem hl] using h
  show (W.heap.modify B _)[B]? = _
  rw [Array.getElem?_eq_getElem (by simpa using hl), Array.getElem_modify_self, h2]
  simp
theorem Cells.setAt {W : World} {B : Nat} {cs : Array Value} {t : TypeId} (h : Cells W B cs t) (k : Nat) (u : Value) : Cells (W.setCell ⟨B, k, none⟩ u) B (cs.setIfInBounds k u) t := by
  have hl := h.lt
  unfold Cells at h ⊢
  have h2 : W.heap[B] = Obj.cells cs t (0, 0) := by simpa [Array.getElem?_eq_getElem hl] using h
  show (W.heap.modify B _)[B]? = _
  rw [Array.getElem?_eq_getElem (by simpa using hl), Array.getElem_modify_self, h2]
  rfl
/-- A function's way out through marks. -/
theorem leaves_marks {n n0 : Nat} {P : Program} {fn : Func} {tmps : Array Value} {R : Ending → World → Prop} {v : Value} (hres : ∀ w', (results fn tmps).run P w' = .ok v w') :
    ∀ (Ds : List Nat) (w : World), Marks n0 w Ds → n0 ≤ w.heap.size → (∀ w', Below n0 w w' → KeepsCells w w' → R (.returned v) w') → LeavesInM Fence.wide n P fn tmps R (markDefers Ds) .returning w
  | [], w, _, _, h => ⟨v, hres w, h w (Below.refl _ _) fun _ _ h _ => h⟩
  | D :: Ds, w, hm, hn, h => by
    obtain ⟨h1, h2⟩ := hm.held D List.mem_cons_self
    have hb : Below n0 w (w.putObj D (.deferred none)) := (Below.refl n0 w).grown (grownBy_putObj' w D (.deferred none)) hn (fun k e => by cases e; exact h1)
    refine ⟨by simp, .inl ⟨D, _, rfl, run_takeDeferred h2, leaves_marks hres Ds _ ⟨(List.nodup_cons.1 hm.nodup).2, fun E hE => ⟨(hm.held E (List.mem_cons_of_mem _ hE)).1, (World.putObj_heap_other (fun e => by subst e; exact (List.nodup_cons.1 hm.nodup).1 hE)).trans (hm.held E (List.mem_cons_of_mem _ hE)).2⟩⟩ (Nat.le_trans hn hb.size) fun w' hb' hk' => h w' (hb.trans hb') fun k o hk ho => ?_⟩⟩
    refine hk' k o ((World.putObj_heap_other (fun e => ?_)).trans hk) ho
    subst e; rw [h2] at hk; cases hk; cases ho
section
variable {F : Fence} {nF : Nat} {P : Program} {ops : Array Oper} {rest : List Oper} {o : Oper} {a : Act} {Q : Exit → Act → World → Prop} {α : Type}
/-- append(v, x) in a round, behind 'gi_at_builtin'; the goal's world is 'W.alloc' of the variadic's box. -/
theorem R_appendIn (d : Kd α) {w0 W : World} (base : Nat) (hgd : o.guard = none) (s x : Operand) (t e : TypeId) (z : Value) (bytes : Nat)
    (ho : o.op = .call { callee := .builtin .append, args := #[s, x], argTypes := #[t, t] })
    (ht : P.underlying t = some (.slice e)) (hinfo : (P.info? e).map (fun i => (i.zero, i.size, i.bytes)) = some (some z, d.sz, bytes)) (hz : z.cells.size = d.sz) (hs0 : 0 < d.sz) (hb0 : 0 < bytes)
    (v : Value) (xs : List α) (p : α) (cs : List Value) (hs : a.eval s = v) (hx : a.eval x = .slice (some ⟨W.heap.size, 0, none⟩) 1 1) (hp : ∀ w, d.M w base (fun _ => False) p cs)
    (HO : d.R e W base (fun _ => True) v xs) (HB : Below base w0 W) (hbase : base ≤ W.heap.size) (hl : (xs.length + 1) * bytes ≤ 140737488355328)
    (h : ∀ v1 w1, d.R e w1 base (fun _ => True) v1 (xs ++ [p]) → Below base w0 w1 → W.grownBy w1 v.ownBlock → (v1.ownBlock = v.ownBlock ∨ ∃ b, v1.ownBlock = some b ∧ W.heap.size ≤ b) → wpListIn F nF P ops Q rest (a.put o.dst v1) w1) :
    wpListIn F nF P ops Q (o :: rest) a (W.alloc (.cells cs.toArray e)) := by
  obtain ⟨h0, inner, hown, hr⟩ := HO
  obtain ⟨i0, hi, hzz⟩ := Option.map_eq_some_iff.1 hinfo
  simp only [Prod.mk.injEq] at hzz
  obtain ⟨hz0, hz1, hz2⟩ := hzz
  have hlen : xs.length + 1 ≤ 140737488355328 := Nat.le_trans (Nat.le_mul_of_pos_right _ hb0) hl
  have hK := d.K_of_M (hp W)
  refine wpListIn_append_own_at (W.alloc (.cells cs.toArray e)) hgd s x t ho base e i0 z d.sz bytes ht hi hz0 hz1 hz2 hz hs0 v xs.length inner hs (hown.alloc _) ⟨W.heap.size, 0, none⟩ 1 1 cs hx (by rw [d.K_len hK]; simp)
    (by simpa using World.news_of_block (cs := cs.toArray) (t := e) (fr := (0, 0)) (heap_alloc_new W (.cells cs.toArray e))) (d.K_one hK) (by simp only [maxLen]; omega) hl (by simp; omega) ?_
  intro v1 w1 hown1 hg _ hat
  have hg1 : W.grownBy w1 v.ownBlock := World.grownBy.trans (World.grownBy_alloc W _ _) hg
  have hat1 : v1.ownBlock = v.ownBlock ∨ ∃ b, v1.ownBlock = some b ∧ W.heap.size ≤ b := by
    rcases hat with hat | hat
    · exact .inl hat
    · exact .inr ⟨_, hat, by simp⟩
  exact h v1 w1 (Kd.R_appended h0 hr (hp W) (fun _ h => h.elim) (fun _ _ => trivial) hown1 hg1 hat1) ((HB.alloc hbase _).grown hg (by simp; omega) (own_base hown)) hg1 hat1
end
end Go.Proofs.Ytemkloildadokaa
set_option linter.unusedVariables false
set_option linter.unusedSimpArgs false
/-! append(nil, ys...) in a drawn region: it only makes memory. -/
namespace Go.Proofs.Ytemkloildadokaa
open Go Go.RowKit Go.Proofs.YtemkloildadokaaW.PrintWords

theorem makes_fresh {P : Program} {α : Type} (d : Kd α) {Rr : α → List Value → Prop} {W : World} {o : Oper} {a : Act} (base : Nat) (hb : base ≤ W.heap.size) (s x : Operand) (t e : TypeId) (z : Value) (bytes : Nat)
    (ho : o.op = .call { callee := .builtin .append, args := #[s, x], argTypes := #[t, t] })
    (ht : P.underlying t = some (.slice e)) (hinfo : (P.info? e).map (fun i => (i.zero, i.size, i.bytes)) = some (some z, d.sz, bytes)) (hz : z.cells.size = d.sz) (hs0 : 0 < d.sz) (hb0 : 0 < bytes)
    (ys : List α) (A : Option Addr) (m c : Nat) (hs : a.eval s = .slice none 0 0) (hx : a.eval x = .slice A m c)
    (HR : ReadsRow Rr d.sz W A m ys) (hKM : ∀ x cs, Rr x cs → d.M W W.heap.size (fun _ => False) x cs) (hl : m * bytes ≤ 140737488355328) :
    makesAt P o a W (fun v1 w1 => Own d e w1 base v1 ys) := by
  have h := Kd.R_append_rows_step (P := P) (ops := #[]) (o := { o with op := .call { callee := .builtin .append, args := #[.const (.slice none 0 0), .const (.slice A m c)], argTypes := #[t, t] }, dst := some 0, guard := none }) (a := ⟨#[undef], []⟩) (Q := fun _ _ _ => False)
    (Kc := fun a' w' => ∃ v1, a'.tmps = #[v1] ∧ Own d e w' W.heap.size v1 ys ∧ Below W.heap.size W w') d W.heap.size (by simp [Region.wanted]) (.const (.slice none 0 0)) (.const (.slice A m c)) t e z bytes rfl ht hinfo hz hs0 hb0 (.slice none 0 0) [] ys A m c (fun _ => True) (fun _ => False) rfl rfl (Kd.R_nil _ _ _ _ _) HR hKM (fun _ h => h.elim) (fun _ _ => trivial) (Below.refl _ _) (Nat.le_refl _) (by simpa using hl) (fun v1 w1 r1 r2 _ _ => ⟨v1, by simp [Act.put], by simpa using r1, r2⟩)
  rw [if_pos (by simp [Region.wanted])] at h
  unfold Oper.wp at h
  unfold makesAt
  have e1 : execOp a.eval o = (do let v ← Builtin.append_ #[t, t] o.type #[.slice none 0 0, .slice A m c]; pure (.value v)) := by
    simp [execOp, ho, resolve, invoke, hs, hx, builtin]
  have e2 : execOp (⟨#[undef], []⟩ : Act).eval { o with op := .call { callee := .builtin .append, args := #[.const (.slice none 0 0), .const (.slice A m c)], argTypes := #[t, t] }, dst := some 0, guard := none } = (do let v ← Builtin.append_ #[t, t] o.type #[.slice none 0 0, .slice A m c]; pure (.value v)) := by
    simp [execOp, resolve, invoke, Act.eval, builtin]
  rw [e2] at h
  rw [e1]
  revert h
  simp only [Sem.run_bind]
  cases (Builtin.append_ #[t, t] o.type #[.slice none 0 0, .slice A m c]).run P W with
  | ok v1 w1 =>
    intro h
    obtain ⟨v2, e, h1, h2⟩ := h
    have e : v1 = v2 := by simpa [Act.put] using e
    subst e
    exact ⟨h2, Kd.R_lower h1 hb⟩
  | halt y w1 =>
    intro h
    cases y <;> exact (show False from h)
theorem fresh_below {W w' : World} (h : W.grownBy w' (Value.slice none 0 0).ownBlock) : Below W.heap.size W w' := ⟨h.os, h.tape, h.output, h.size, fun k hk => h.block k hk (by simp [Value.ownBlock])⟩
end Go.Proofs.Ytemkloildadokaa
set_option linter.unusedVariables false
set_option linter.unusedSimpArgs false
/-! A cell of a row of the call's own is turned, whatever the row's elements are. -/
namespace Go.Proofs.Ytemkloildadokaa
open Go Go.RowKit Go.Proofs.YtemkloildadokaaW.PrintWords

theorem reps_setK {α : Type} (d : Kd α) (cells : α → List Value) (hopen : ∀ w x cs, d.K w x cs → cs = cells x) (hmk : ∀ w base ok x, d.M w base ok x (cells x)) {w w1 : World} {base : Nat} {ok ok' : Nat → Prop} {inner : List Value} {xs : List α} (hrp : Reps (d.M w base ok) d.sz xs inner) {i : Nat} {x : α} (hx : xs[i]? = some x) (x' : α) (j : Nat) (hj : j < d.sz) (u : Value) (hu : (cells x).set j u = cells x') :
    Reps (d.M w1 base ok') d.sz (xs.set i x') (inner.set (i * d.sz + j) u) := by
  have hil := (List.getElem?_eq_some_iff.1 hx).1
  refine ⟨by rw [List.length_set, List.length_set]; exact hrp.1, fun m p hp => ?_⟩
  have hlen := hrp.1
  by_cases hmi : m = i
  · subst hmi
    have hpe : p = x' := by rw [List.getElem?_set_self hil] at hp; exact (Option.some.inj hp).symm
    subst hpe
    have hk := hopen _ _ _ (d.K_of_M (hrp.2 m x hx))
    have : ((inner.set (m * d.sz + j) u).drop (m * d.sz)).take d.sz = ((inner.drop (m * d.sz)).take d.sz).set j u := by
      rw [List.drop_set, if_neg (by omega), Nat.add_sub_cancel_left, List.take_set]
    rw [this, hk, hu]
    exact hmk _ _ _ p
  · rw [List.getElem?_set_ne (Ne.symm hmi)] at hp
    have hk := hopen _ _ _ (d.K_of_M (hrp.2 m p hp))
    have hne : ∀ q, q < d.sz → m * d.sz + q ≠ i * d.sz + j := fun q hq e => by
      rcases Nat.lt_or_gt_of_ne hmi with h | h
      · have := Nat.mul_le_mul_right d.sz (show m + 1 ≤ i from h); rw [Nat.add_mul, Nat.one_mul] at this; omega
      · have := Nat.mul_le_mul_right d.sz (show i + 1 ≤ m from h); rw [Nat.add_mul, Nat.one_mul] at this; omega
    have : ((inner.set (i * d.sz + j) u).drop (m * d.sz)).take d.sz = (inner.drop (m * d.sz)).take d.sz := by
      apply List.ext_getElem?
      intro q
      rw [List.getElem?_take, List.getElem?_take]
      split
      · rename_i hq
        rw [List.getElem?_drop, List.getElem?_drop, List.getElem?_set_ne (fun e => hne q hq e.symm)]
      · rfl
    rw [this, hk]
    exact hmk _ _ _ p
theorem own_setK {α : Type} (d : Kd α) (cells : α → List Value) (hopen : ∀ w x cs, d.K w x cs → cs = cells x) (hmk : ∀ w base ok x, d.M w base ok x (cells x)) {e : Nat} {w : World} {h0 g n cf : Nat} {xs : List α} (h : Own d e w h0 (.slice (some ⟨g, 0, none⟩) n cf) xs) {i : Nat} {x : α} (hx : xs[i]? = some x) (x' : α) (j : Nat) (hj : j < d.sz) (u : Value) (hu : (cells x).set j u = cells x') :
    Own d e (w.setCell ⟨g, i * d.sz + j, none⟩ u) h0 (.slice (some ⟨g, 0, none⟩) n cf) (xs.set i x') ∧ w.grownBy (w.setCell ⟨g, i * d.sz + j, none⟩ u) (some g) := by
  obtain ⟨_, inner, ho, hrp⟩ := h
  have hn : n = xs.length := by
    rcases ho.2 with ⟨e, _⟩ | ⟨_, _, _, e, _⟩
    · cases e
    · injection e
  subst hn
  obtain ⟨h1, h2⟩ := ho.stored (i * d.sz + j) u
  exact ⟨⟨fun _ _ => trivial, _, by rw [List.length_set]; exact h1, reps_setK d cells hopen hmk hrp hx x' j hj u hu⟩, h2⟩
/-- The cells of an element of a row of the call's own. -/
theorem own_cellsK {α : Type} (d : Kd α) (cells : α → List Value) (hopen : ∀ w x cs, d.K w x cs → cs = cells x) (hsz : ∀ x, (cells x).length = d.sz) {e : Nat} {w : World} {h0 n cf : Nat} {A : Option Addr} {xs : List α} (h : Own d e w h0 (.slice A n cf) xs) {i : Nat} {x : α} (hx : xs[i]? = some x) :
    ∃ g, A = some ⟨g, 0, none⟩ ∧ h0 ≤ g ∧ g < w.heap.size ∧ (∀ j u, (cells x)[j]? = some u → w.cell? ⟨g, i * d.sz + j, none⟩ = some u) ∧ (∀ j, w.frozen? ⟨g, j, none⟩ = false) := by
  have hil := (List.getElem?_eq_some_iff.1 hx).1
  obtain ⟨_, inner, ho, hrp⟩ := h
  have ho' : w.ownsRow h0 e d.sz (.slice A n cf) xs.length inner := ho
  obtain ⟨g, cap, he, h1, h2⟩ := ho.form (by omega)
  injection he with e1 e2 e3
  subst e1
  obtain ⟨cs, hc⟩ := own_typed ho g rfl
  have hlt := (Array.getElem?_eq_some_iff.1 hc).1
  have hk := hopen _ _ _ (d.K_of_M (hrp.2 i x hx))
  refine ⟨g, rfl, own_base ho g rfl, hlt, fun j u hj => ?_, fun j => by simp [World.frozen?, hc]⟩
  have hjl : j < d.sz := by have := (List.getElem?_eq_some_iff.1 hj).1; rw [hsz] at this; exact this
  have h3 : inner[i * d.sz + j]? = some u := by
    have h4 : ((inner.drop (i * d.sz)).take d.sz)[j]? = some u := by rw [hk]; exact hj
    rw [List.getElem?_take_of_lt hjl, List.getElem?_drop] at h4
    exact h4
  have := ho.cells (g := g) rfl (i * d.sz + j) u h3
  rwa [show (⟨g, 0, none⟩ : Addr).add (i * d.sz + j) = ⟨g, i * d.sz + j, none⟩ by simp [Addr.add]; omega] at this
end Go.Proofs.Ytemkloildadokaa
set_option linter.unusedVariables false
set_option linter.unusedSimpArgs false
/-! Generic laws of rows. -/
namespace Go.Proofs.Ytemkloildadokaa
open Go.RowKit Go.Shelf Go.Proofs.YtemkloildadokaaW.PrintWords
/-- A kind with no rows inside. -/
def Flat {α : Type} (d : Kd α) : Prop := ∀ (w w' : World) (base : Nat) (ok ok' : Nat → Prop) (x : α) (cs : List Value), d.M w base ok x cs → d.M w' base ok' x cs
theorem flat_int : Flat (Kd.int .i64) := fun _ _ _ _ _ _ _ h => h
theorem own_step {α : Type} {d : Kd α} (hd : Flat d) {e base : Nat} {w w1 : World} {v : Value} {xs : List α} (h : Own d e w base v xs) (hm : ∀ k, v.ownBlock = some k → w1.heap[k]? = w.heap[k]?) : Own d e w1 base v xs := by
  obtain ⟨_, inner, ho, hr⟩ := h
  exact ⟨fun _ _ => trivial, inner, own_move ho hm, hr.imp_ (fun x cs hx => hd _ _ _ _ _ x cs hx)⟩
theorem own_ty {α : Type} {d : Kd α} {e base : Nat} {w : World} {v : Value} {xs : List α} (h : Own d e w base v xs) {k : Nat} (hk : v.ownBlock = some k) : base ≤ k ∧ ∃ cells, w.heap[k]? = some (.cells cells e (0, 0)) := by
  obtain ⟨inner, ho⟩ := Kd.R_own h
  exact ⟨own_base ho k hk, own_typed ho k hk⟩
/-- Two blocks of two types are two blocks. -/
theorem ty_ne {w : World} {k g e t : Nat} {cells cells' : Array Value} (h : w.heap[k]? = some (.cells cells e (0, 0))) (h' : w.heap[g]? = some (.cells cells' t (0, 0))) (hne : e ≠ t) : k ≠ g := fun he => by
  subst he; rw [h] at h'; injection h' with h'; injection h' with _ h'; exact hne h'
theorem own_grown_ty {α : Type} {d : Kd α} (hd : Flat d) {e base : Nat} {w w1 : World} {v : Value} {xs : List α} (h : Own d e w base v xs) {row : Option Nat} (hg : w.grownBy w1 row) (ht : ∀ g, row = some g → ∃ cells t, w.heap[g]? = some (.cells cells t (0, 0)) ∧ t ≠ e) : Own d e w1 base v xs :=
  own_step hd h fun k hk => by
    obtain ⟨_, cells, hc⟩ := own_ty h hk
    refine hg.block k (Array.getElem?_eq_some_iff.1 hc).1 (fun e' => ?_)
    obtain ⟨_, t, hc', hne⟩ := ht k e'.symm
    exact ty_ne hc hc' (Ne.symm hne) rfl
theorem Cells.far {W : World} {B : Nat} {cs : Array Value} {t : TypeId} (h : Cells W B cs t) {p : Addr} (hne : B ≠ p.block) (u : Value) : Cells (W.setCell p u) B cs t := (Below.heap_setCell W p u B hne).trans h
theorem lit_row {α : Type} (d : Kd α) (W : World) (B : Nat) (x : α) (cs : List Value) (t : TypeId) (hc : Cells W B cs.toArray t) (hK : d.K W x cs) : ReadsRow (d.K W) d.sz W (some ⟨B, 0, none⟩) 1 [x] :=
  ⟨rfl, by omega, fun _ => ⟨_, rfl, fun j p hj => by
    have hj0 : j = 0 := by have := (List.getElem?_eq_some_iff.1 hj).1; simp at this; exact this
    subst hj0
    obtain rfl : x = p := by simpa using hj
    refine ⟨cs, d.K_len hK, hK, fun i u hu => ?_⟩
    have := hc.cell i u (by simpa using hu)
    rw [Nat.zero_mul, Nat.zero_add, add_plain]
    exact this⟩⟩
theorem below_grown {w w' : World} (h : Below w.heap.size w w') (row : Option Nat) : w.grownBy w' row := ⟨h.os, h.tape, h.output, h.size, fun k hk _ => h.block k hk⟩
theorem stable_below (B : Nat) (w : World) (hB : B ≤ w.heap.size) : Stable (Below B w) := fun _ _ h hb => h.trans (hb.mono (Nat.le_trans hB h.size))
theorem Cells.new2 (W : World) (o : Obj) (cs : Array Value) (t : TypeId) : Cells ((W.alloc o).alloc (.cells cs t)) (W.heap.size + 1) cs t := by
  have h := Cells.new (W.alloc o) cs t
  rwa [World.size_alloc] at h
theorem Cells.other {w : World} {b : Nat} {cs : Array Value} {t : TypeId} (h : Cells w b cs t) {p : Addr} (hne : b ≠ p.block) (v : Value) : Cells (w.setCell p v) b cs t := (Below.heap_setCell w p v b hne).trans h
theorem cells_ty {X : World} {k : Nat} {cs cs' : Array Value} {t t' : TypeId} (h : Cells X k cs t) (h' : Cells X k cs' t') : t = t' := by
  have h1 : X.heap[k]? = some (.cells cs t (0, 0)) := h
  have h2 : X.heap[k]? = some (.cells cs' t' (0, 0)) := h'
  rw [h1] at h2
  cases h2
  rfl
theorem two_new (w X : World) (c1 c2 : Array Value) (t1 t2 : TypeId) (h : Below (w.heap.size + 1 + 1) ((w.alloc (.cells c1 t1)).alloc (.cells c2 t2)) X) :
    Cells X w.heap.size c1 t1 ∧ Cells X (w.heap.size + 1) c2 t2 ∧ Below w.heap.size w X := by
  have k1 : Cells ((w.alloc (.cells c1 t1)).alloc (.cells c2 t2)) w.heap.size c1 t1 := (Cells.new w c1 t1).later (below_alloc (Below.refl _ _) _)
  have k2 : Cells ((w.alloc (.cells c1 t1)).alloc (.cells c2 t2)) (w.alloc (.cells c1 t1)).heap.size c2 t2 := Cells.new _ c2 t2
  have hB : Below w.heap.size w ((w.alloc (.cells c1 t1)).alloc (.cells c2 t2)) := below_alloc (below_alloc (Below.refl _ _) _) _
  have hX : Below ((w.alloc (.cells c1 t1)).alloc (.cells c2 t2)).heap.size ((w.alloc (.cells c1 t1)).alloc (.cells c2 t2)) X := by simpa using h
  simp only [World.size_alloc] at k2
  exact ⟨k1.later hX, k2.later hX, below_step hB hX⟩
theorem three_new (w : World) (c1 c2 c3 : Array Value) (t1 t2 t3 : TypeId) :
    Cells (((w.alloc (.cells c1 t1)).alloc (.cells c2 t2)).alloc (.cells c3 t3)) w.heap.size c1 t1 ∧ Cells (((w.alloc (.cells c1 t1)).alloc (.cells c2 t2)).alloc (.cells c3 t3)) (w.heap.size + 1) c2 t2 ∧ Cells (((w.alloc (.cells c1 t1)).alloc (.cells c2 t2)).alloc (.cells c3 t3)) (w.heap.size + 1 + 1) c3 t3 ∧ Below w.heap.size w (((w.alloc (.cells c1 t1)).alloc (.cells c2 t2)).alloc (.cells c3 t3)) := by
  have k1 : Cells (((w.alloc (.cells c1 t1)).alloc (.cells c2 t2)).alloc (.cells c3 t3)) w.heap.size c1 t1 := ((Cells.new w c1 t1).later (below_alloc (Below.refl _ _) _)).later (below_alloc (Below.refl _ _) _)
  have k2 : Cells (((w.alloc (.cells c1 t1)).alloc (.cells c2 t2)).alloc (.cells c3 t3)) (w.alloc (.cells c1 t1)).heap.size c2 t2 := (Cells.new _ c2 t2).later (below_alloc (Below.refl _ _) _)
  have k3 : Cells (((w.alloc (.cells c1 t1)).alloc (.cells c2 t2)).alloc (.cells c3 t3)) ((w.alloc (.cells c1 t1)).alloc (.cells c2 t2)).heap.size c3 t3 := Cells.new _ c3 t3
  simp only [World.size_alloc] at k2 k3
  exact ⟨k1, k2, k3, below_alloc (below_alloc (below_alloc (Below.refl _ _) _) _) _⟩
theorem flat_get {α : Type} (f : α → List Value) (m : Nat) (hm : ∀ x, (f x).length = m) : ∀ (l : List α) (j i : Nat) (x : α), l[j]? = some x → i < m → (l.flatMap f)[j * m + i]? = (f x)[i]?
  | [], j, i, x, h, _ => by simp at h
  | y :: l, 0, i, x, h, hi => by
    obtain rfl : y = x := by simpa using h
    rw [List.flatMap_cons, Nat.zero_mul, Nat.zero_add, List.getElem?_append_left (by rw [hm]; exact hi)]
  | y :: l, j + 1, i, x, h, hi => by
    rw [List.flatMap_cons, List.getElem?_append_right (by rw [hm, Nat.add_mul]; omega), hm, show (j + 1) * m + i - m = j * m + i by rw [Nat.add_mul]; omega]
    exact flat_get f m hm l j i x (by simpa using h) hi
theorem rows_lit {α : Type} (d : Kd α) (f : α → List Value) (hf : ∀ x, (f x).length = d.sz) (hK : ∀ w x, d.K w x (f x)) (w : World) (B : Nat) (l : List α) (hl : l.length ≤ 1000) (cs : Array Value) (t : TypeId) (hcs : cs = (l.flatMap f).toArray) (h : Cells w B cs t) : Kd.C d w (some ⟨B, 0, none⟩) l.length l :=
  ⟨rfl, by omega, fun _ => ⟨_, rfl, fun j p hj => ⟨f p, hf p, hK w p, fun i u hu => by
    have hi : i < d.sz := by rw [← hf p]; exact (List.getElem?_eq_some_iff.1 hu).1
    have h1 := flat_get f d.sz hf l j i p hj hi
    rw [hu] at h1
    have h2 := h.cell (j * d.sz + i) u (by rw [hcs]; simpa using h1)
    rw [add_plain]
    exact h2⟩⟩⟩
theorem cells11 {X : World} {B : Nat} {t : TypeId} {a0 a1 a2 a3 a4 a5 a6 a7 a8 a9 a10 : Value} (h : Cells X B #[a0, a1, a2, a3, a4, a5, a6, a7, a8, a9, a10] t) : X.cell? ⟨B, 0, none⟩ = some a0 ∧ X.cell? ⟨B, 1, none⟩ = some a1 ∧ X.cell? ⟨B, 2, none⟩ = some a2 ∧ X.cell? ⟨B, 3, none⟩ = some a3 ∧ X.cell? ⟨B, 4, none⟩ = some a4 ∧ X.cell? ⟨B, 5, none⟩ = some a5 ∧ X.cell? ⟨B, 6, none⟩ = some a6 ∧ X.cell? ⟨B, 7, none⟩ = some a7 ∧ X.cell? ⟨B, 8, none⟩ = some a8 ∧ X.cell? ⟨B, 9, none⟩ = some a9 ∧ X.cell? ⟨B, 10, none⟩ = some a10 :=
  ⟨h.cell 0 _ rfl, h.cell 1 _ rfl, h.cell 2 _ rfl, h.cell 3 _ rfl, h.cell 4 _ rfl, h.cell 5 _ rfl, h.cell 6 _ rfl, h.cell 7 _ rfl, h.cell 8 _ rfl, h.cell 9 _ rfl, h.cell 10 _ rfl⟩
end Go.Proofs.Ytemkloildadokaa
