/-
  Texts of one hand, laid together: SegSum, SegTypes, SegInv1, Own, Iter, SegMem, Ord, SegRead, SegOpen, SegList, SegRight, SegThere.
-/
import Derived.Test.YtfmojgdomficlaaZA
import Derived.RangeFuncNested
import Derived.RangeFuncBound
import Derived.RangeFuncCalls
import Derived.RangeFuncLeaves
import Derived.Shelf.Abstract
import Derived.Shelf.RegionOpen
import Derived.WalkKit
import Derived.OwnWalkIn
import Derived.TacticsInMore
import Derived.LoopNIn
import Derived.LoopIn
import Derived.Maps.OwnIn
import Derived.Deep.RegionHeld3
import Derived.Below
import Derived.Tactics
import Derived.KernelRfl
set_option linter.unusedVariables false
set_option linter.unusedSimpArgs false
/-! The sum of one of the news: the program. -/
namespace Go.Proofs.Ytfmojgdomficlaa
open Go.RowKit Go.Proofs.YtfmojgdomficlaaW.PrintWords

def segStep (h x : Int) : Int := (31 * h + x.tmod 9973 + 9973) % 9973
def segNums (n : News) : List Int := [n.do_, n.src, n.id, n.ver, n.body.at_, n.body.key, n.body.val]
def segSum (n : News) : Int := (segNums n).foldl segStep 7
theorem segStep_bd (h x : Int) : 0 ≤ segStep h x ∧ segStep h x < 9973 := ⟨Int.emod_nonneg _ (by omega), Int.emod_lt_of_pos _ (by omega)⟩
theorem tmod_bd (x : Int) : -9973 < x.tmod 9973 ∧ x.tmod 9973 < 9973 := by
  rcases Int.le_total 0 x with h | h
  · rw [Int.tmod_eq_emod_of_nonneg h]
    have := Int.emod_nonneg x (show (9973 : Int) ≠ 0 by omega)
    have := Int.emod_lt_of_pos x (show (0 : Int) < 9973 by omega)
    omega
  · have e : x.tmod 9973 = -((-x).tmod 9973) := by rw [Int.neg_tmod, Int.neg_neg]
    rw [e, Int.tmod_eq_emod_of_nonneg (by omega : 0 ≤ -x)]
    have := Int.emod_nonneg (-x) (show (9973 : Int) ≠ 0 by omega)
    have := Int.emod_lt_of_pos (-x) (show (0 : Int) < 9973 by omega)
    omega
theorem segPart_bd (n : News) (k : Nat) : 0 ≤ ((segNums n).take k).foldl segStep 7 ∧ ((segNums n).take k).foldl segStep 7 < 9973 := by
  match k with
  | 0 => simp
  | 1 | 2 | 3 | 4 | 5 | 6 => simp only [segNums, List.take_succ_cons, List.take_zero, List.foldl_cons, List.foldl_nil]; exact segStep_bd _ _
  | k + 7 => simp only [segNums, List.take_succ_cons, List.take_nil, List.foldl_cons, List.foldl_nil]; exact segStep_bd _ _
set_option maxRecDepth 100000 in
set_option maxHeartbeats 2000000 in
theorem seg_Sum (n : News) (w : World) : Calls Try.prog 11 #[.agg #[.int .i64 n.do_, .int .i64 n.src, .int .i64 n.id, .int .i64 n.ver, .int .i64 n.body.at_, .int .i64 n.body.key, .int .i64 n.body.val]] w fun e w' => e = .returned (.int .i64 (segSum n)) ∧ Below w.heap.size w w' := by
  have hb := segPart_bd n
  have Hb := Lib.hid hb
  have hsucc : ∀ k x, (segNums n)[k]? = some x → ((segNums n).take (k + 1)).foldl segStep 7 = segStep (((segNums n).take k).foldl segStep 7) x := by
    intro k x hx
    obtain ⟨hk, e⟩ := List.getElem?_eq_some_iff.1 hx
    rw [List.take_succ_eq_append_getElem hk, e, List.foldl_append]
    rfl
  have Hs := Lib.hid hsucc
  clear hb hsucc
  have hix0 : ∀ w : World, (Instr.index 75 (.agg #[.int .i64 n.do_, .int .i64 n.src, .int .i64 n.id, .int .i64 n.ver, .int .i64 n.body.at_, .int .i64 n.body.key, .int .i64 n.body.val]) (.int .i64 0)).run Try.prog w = .ok (.int .i64 n.do_) w := fun w => by kernel_rfl
  have hix1 : ∀ w : World, (Instr.index 75 (.agg #[.int .i64 n.do_, .int .i64 n.src, .int .i64 n.id, .int .i64 n.ver, .int .i64 n.body.at_, .int .i64 n.body.key, .int .i64 n.body.val]) (.int .i64 1)).run Try.prog w = .ok (.int .i64 n.src) w := fun w => by kernel_rfl
  have hix2 : ∀ w : World, (Instr.index 75 (.agg #[.int .i64 n.do_, .int .i64 n.src, .int .i64 n.id, .int .i64 n.ver, .int .i64 n.body.at_, .int .i64 n.body.key, .int .i64 n.body.val]) (.int .i64 2)).run Try.prog w = .ok (.int .i64 n.id) w := fun w => by kernel_rfl
  have hix3 : ∀ w : World, (Instr.index 75 (.agg #[.int .i64 n.do_, .int .i64 n.src, .int .i64 n.id, .int .i64 n.ver, .int .i64 n.body.at_, .int .i64 n.body.key, .int .i64 n.body.val]) (.int .i64 3)).run Try.prog w = .ok (.int .i64 n.ver) w := fun w => by kernel_rfl
  have hix4 : ∀ w : World, (Instr.index 75 (.agg #[.int .i64 n.do_, .int .i64 n.src, .int .i64 n.id, .int .i64 n.ver, .int .i64 n.body.at_, .int .i64 n.body.key, .int .i64 n.body.val]) (.int .i64 4)).run Try.prog w = .ok (.int .i64 n.body.at_) w := fun w => by kernel_rfl
  have hix5 : ∀ w : World, (Instr.index 75 (.agg #[.int .i64 n.do_, .int .i64 n.src, .int .i64 n.id, .int .i64 n.ver, .int .i64 n.body.at_, .int .i64 n.body.key, .int .i64 n.body.val]) (.int .i64 5)).run Try.prog w = .ok (.int .i64 n.body.key) w := fun w => by kernel_rfl
  have hix6 : ∀ w : World, (Instr.index 75 (.agg #[.int .i64 n.do_, .int .i64 n.src, .int .i64 n.id, .int .i64 n.ver, .int .i64 n.body.at_, .int .i64 n.body.key, .int .i64 n.body.val]) (.int .i64 6)).run Try.prog w = .ok (.int .i64 n.body.val) w := fun w => by kernel_rfl
  go_enter Try.func11, Try.ntmps11
  go_wp2
  go_loop [3, 24] (fun h i => ∃ k : Nat, k ≤ 7 ∧ i = .int .i64 k ∧ h = .int .i64 (((segNums n).take k).foldl segStep 7)) (fun _ i => 7 - (intOf i).toNat)
  case atStart => exact ⟨0, by omega, rfl, rfl⟩
  case round =>
    obtain ⟨k, hk, rfl, rfl⟩ := hrel
    obtain ⟨h0, h1⟩ := Hb.out k
    obtain rfl | rfl | rfl | rfl | rfl | rfl | rfl | rfl : k = 0 ∨ k = 1 ∨ k = 2 ∨ k = 3 ∨ k = 4 ∨ k = 5 ∨ k = 6 ∨ k = 7 := by omega
    · have hs := Lib.hid (Hs.out 0 n.do_ rfl)
      have ht := tmod_bd n.do_
      generalize ((segNums n).take 0).foldl segStep 7 = h at *
      go_wp2
      exact ⟨⟨0 + 1, by omega, by go_num, by rw [hs.out]; rfl⟩, by simp [intOf]⟩
    · have hs := Lib.hid (Hs.out 1 n.src rfl)
      have ht := tmod_bd n.src
      generalize ((segNums n).take 1).foldl segStep 7 = h at *
      go_wp2
      exact ⟨⟨1 + 1, by omega, by go_num, by rw [hs.out]; rfl⟩, by simp [intOf]⟩
    · have hs := Lib.hid (Hs.out 2 n.id rfl)
      have ht := tmod_bd n.id
      generalize ((segNums n).take 2).foldl segStep 7 = h at *
      go_wp2
      exact ⟨⟨2 + 1, by omega, by go_num, by rw [hs.out]; rfl⟩, by simp [intOf]⟩
    · have hs := Lib.hid (Hs.out 3 n.ver rfl)
      have ht := tmod_bd n.ver
      generalize ((segNums n).take 3).foldl segStep 7 = h at *
      go_wp2
      exact ⟨⟨3 + 1, by omega, by go_num, by rw [hs.out]; rfl⟩, by simp [intOf]⟩
    · have hs := Lib.hid (Hs.out 4 n.body.at_ rfl)
      have ht := tmod_bd n.body.at_
      generalize ((segNums n).take 4).foldl segStep 7 = h at *
      go_wp2
      exact ⟨⟨4 + 1, by omega, by go_num, by rw [hs.out]; rfl⟩, by simp [intOf]⟩
    · have hs := Lib.hid (Hs.out 5 n.body.key rfl)
      have ht := tmod_bd n.body.key
      generalize ((segNums n).take 5).foldl segStep 7 = h at *
      go_wp2
      exact ⟨⟨5 + 1, by omega, by go_num, by rw [hs.out]; rfl⟩, by simp [intOf]⟩
    · have hs := Lib.hid (Hs.out 6 n.body.val rfl)
      have ht := tmod_bd n.body.val
      generalize ((segNums n).take 6).foldl segStep 7 = h at *
      go_wp2
      exact ⟨⟨6 + 1, by omega, by go_num, by rw [hs.out]; rfl⟩, by simp [intOf]⟩
    · go_wp2
      go_ret
      exact ⟨rfl, (by repeat (first | exact Below.refl _ _ | assumption | apply below_alloc | apply below_drew1 | apply pw_below_drewN | refine below_step ?_ (by assumption)))⟩
end Go.Proofs.Ytfmojgdomficlaa
set_option linter.unusedVariables false
/-! Devices as Lean's own structures, and what the program and the reference read off them. No program in sight. -/
namespace Go.Proofs.Ytfmojgdomficlaa
/-- api.SegRec -/
structure SRec where
  news : News
  sum : Int
deriving DecidableEq, Inhabited
/-- api.SegFile -/
structure SFile where
  no : Int
  recs : List SRec
  safe : Int
deriving DecidableEq, Inhabited
/-- api.SegDisk -/
structure SDisk where
  files : List SFile
  list : List Int
deriving DecidableEq, Inhabited
/-- api.SegStep -/
structure SStep where
  do_ : Int
  k : Int
  stop : Int
  torn : Bool
  news : News
deriving DecidableEq, Inhabited
/-- A record is right. -/
def rightB (r : SRec) : Bool := r.sum == segSum r.news
/-- The records ahead of the first one that is not right. -/
def goodOf (l : List SRec) : List SRec := l.takeWhile rightB
/-- Where a file of a number stands, from a number on. -/
def placeI (no : Int) : List SFile → Nat → Option Nat
  | [], _ => none
  | f :: l, i => if f.no = no then some i else placeI no l (i + 1)
def placeOf (fs : List SFile) (no : Int) : Int := match placeI no fs 0 with
  | some i => i
  | none => -1
/-- The file of a number. -/
def fileOf (fs : List SFile) (no : Int) : SFile := (fs.find? fun f => f.no == no).getD default
/-- What is there. -/
def thereOf (d : SDisk) : List News := d.list.flatMap fun no => (goodOf (fileOf d.files no).recs).map (·.news)
/-- The list: every number has a file, none comes twice. -/
def listedFrom (fs : List SFile) (pre : List Int) : List Int → Bool
  | [] => true
  | no :: l => (placeI no fs 0).isSome && (!pre.contains no && listedFrom fs (pre ++ [no]) l)
def listB (d : SDisk) : Bool := !(d.list.isEmpty) && (decide (d.list.length ≤ 8) && listedFrom d.files [] d.list)
/-- The open file's number. -/
def openNo (d : SDisk) : Int := d.list.getLast?.getD 0
/-- The files: numbers go up, what is safe fits. -/
def filesFrom (last opn : Int) (many : Int) : List SFile → Bool
  | [] => true
  | f :: l => decide (last < f.no) && (decide (f.no ≤ 9999) && (decide (0 ≤ f.safe) && (decide (f.safe ≤ f.recs.length) && ((decide ((f.recs.length : Int) ≤ f.safe) || f.no == opn) && (decide (many + f.recs.length ≤ 120) && filesFrom f.no opn (many + f.recs.length) l)))))
def shapedB (d : SDisk) : Bool := listB d && filesFrom 0 (openNo d) 0 d.files
def diskB (d : SDisk) : Bool := shapedB d && formedB (thereOf d) 4
/-- All files are listed, all records are right. -/
def wholeB (d : SDisk) : Bool := d.files.all fun f => f.recs.all rightB && d.list.contains f.no

theorem placeI_spec (no : Int) : ∀ (fs : List SFile) (k i : Nat), placeI no fs k = some i → k ≤ i ∧ ∃ f, fs[i - k]? = some f ∧ f.no = no ∧ fs.find? (fun f => f.no == no) = some f
  | [], k, i, h => by simp [placeI] at h
  | f :: l, k, i, h => by
    unfold placeI at h
    split at h
    · rename_i e
      obtain rfl : k = i := by simpa using h
      exact ⟨Nat.le_refl _, f, by simp, e, by simp [List.find?, e]⟩
    · rename_i e
      obtain ⟨h1, g, h2, h3, h4⟩ := placeI_spec no l (k + 1) i h
      refine ⟨by omega, g, ?_, h3, ?_⟩
      · rw [show i - k = (i - (k + 1)) + 1 by omega]; simpa using h2
      · rw [List.find?_cons_of_neg (by simpa using e)]; exact h4
theorem placeI_none (no : Int) : ∀ (fs : List SFile) (k : Nat), placeI no fs k = none ↔ fs.find? (fun f => f.no == no) = none
  | [], k => by simp [placeI]
  | f :: l, k => by
    unfold placeI
    split
    · rename_i e; simp [List.find?, e]
    · rename_i e
      rw [List.find?_cons_of_neg (by simpa using e)]
      exact placeI_none no l (k + 1)
theorem placeI_step (no : Int) (fs : List SFile) (k : Nat) (f : SFile) (hf : fs[k]? = some f) : placeI no (fs.drop k) k = if f.no = no then some k else placeI no (fs.drop (k + 1)) (k + 1) := by
  obtain ⟨hk, rfl⟩ := List.getElem?_eq_some_iff.1 hf
  rw [List.drop_eq_getElem_cons hk, placeI]
end Go.Proofs.Ytfmojgdomficlaa
set_option linter.unusedVariables false
set_option linter.unusedSimpArgs false
/-! Formed devices, in plain words. No program in sight. -/
namespace Go.Proofs.Ytfmojgdomficlaa

def NoClash (l : List News) : Prop := ∀ x ∈ l, ∀ y ∈ l, clashB x y = false
theorem clashB_symm (x y : News) : clashB x y = clashB y x := by
  rw [Bool.eq_iff_iff]
  simp only [clashB, newsEq, Bool.and_eq_true, Bool.not_eq_true', beq_iff_eq, beq_eq_false_iff_ne, decide_eq_false_iff_not]
  constructor
  · rintro ⟨h1, h2, h3, h4, h5, h6⟩; exact ⟨h2, h1, h3.symm, h4.symm, h5.symm, fun e => h6 e.symm⟩
  · rintro ⟨h1, h2, h3, h4, h5, h6⟩; exact ⟨h2, h1, h3.symm, h4.symm, h5.symm, fun e => h6 e.symm⟩
theorem clashB_self (x : News) : clashB x x = false := by simp [clashB, newsEq]
theorem clashIn_none (n : News) : ∀ (l : List News) (i : Nat), clashIn n l i = none ↔ ∀ x ∈ l, clashB x n = false
  | [], i => by simp [clashIn]
  | m :: l, i => by
    simp only [clashIn]
    cases h : clashB m n
    · simp [h, clashIn_none n l (i + 1)]
    · simp [h]
theorem clashFrom_none : ∀ (l pre : List News), (∀ x ∈ pre, ∀ y ∈ pre, clashB x y = false) → (clashFrom pre l = none ↔ ∀ x ∈ pre ++ l, ∀ y ∈ pre ++ l, clashB x y = false)
  | [], pre, hp => by simpa [clashFrom] using hp
  | n :: l, pre, hp => by
    simp only [clashFrom]
    cases h : clashIn n pre 0 with
    | some i =>
      simp only [reduceCtorEq, false_iff]
      intro hall
      have : clashIn n pre 0 = none := (clashIn_none n pre 0).2 fun x hx => hall x (List.mem_append_left _ hx) n (by simp)
      rw [this] at h
      cases h
    | none =>
      have h1 := (clashIn_none n pre 0).1 h
      have h2 : ∀ x ∈ pre ++ [n], ∀ y ∈ pre ++ [n], clashB x y = false := by
        intro x hx y hy
        rcases List.mem_append.1 hx with kx | kx <;> rcases List.mem_append.1 hy with ky | ky
        · exact hp x kx y ky
        · obtain rfl : y = n := by simpa using ky
          exact h1 x kx
        · obtain rfl : x = n := by simpa using kx
          rw [clashB_symm]; exact h1 y ky
        · obtain rfl : x = n := by simpa using kx
          obtain rfl : y = x := by simpa using ky
          exact clashB_self _
      have := clashFrom_none l (pre ++ [n]) h2
      rw [this]
      simp
theorem clashOf_iff (l : List News) : (clashOf l).2.2 = false ↔ NoClash l := by
  have h := clashFrom_none l [] (by simp)
  rw [List.nil_append] at h
  unfold NoClash
  rw [← h]
  unfold clashOf
  cases clashFrom [] l with
  | none => simp
  | some p => obtain ⟨i, k⟩ := p; simp
theorem formed_iff' (l : List News) (srcs : Int) : formedB l srcs = true ↔ (inB srcs 1 4 = true ∧ ∀ x ∈ l, goodB x srcs = true) ∧ l.length ≤ 60 ∧ NoClash l := by
  unfold formedB plainB
  rw [Bool.and_eq_true, Bool.not_eq_true', clashOf_iff]
  simp only [Bool.and_eq_true, decide_eq_true_eq, Bool.not_eq_true', List.any_eq_false, Bool.not_eq_true, Bool.not_eq_false']
  constructor
  · rintro ⟨⟨h1, h2, h3⟩, h4⟩
    exact ⟨⟨h1, fun x hx => by simpa using h3 x hx⟩, h2, h4⟩
  · rintro ⟨⟨h1, h3⟩, h2, h4⟩
    exact ⟨⟨h1, h2, fun x hx => by simpa using h3 x hx⟩, h4⟩
theorem formed_sub {l m : List News} {srcs : Int} (h : formedB l srcs = true) (hm : ∀ x ∈ m, x ∈ l) (hl : m.length ≤ l.length) : formedB m srcs = true := by
  obtain ⟨⟨h1, h2⟩, h3, h4⟩ := (formed_iff' l srcs).1 h
  exact (formed_iff' m srcs).2 ⟨⟨h1, fun x hx => h2 x (hm x hx)⟩, by omega, fun x hx y hy => h4 x (hm x hx) y (hm y hy)⟩
/-- All records. -/
def totalOf (fs : List SFile) : Nat := (fs.map fun f => f.recs.length).sum
/-- What a file must be. -/
structure FileOk (opn : Int) (f : SFile) : Prop where
  most : f.no ≤ 9999
  safe0 : 0 ≤ f.safe
  safe1 : f.safe ≤ f.recs.length
  full : (f.recs.length : Int) ≤ f.safe ∨ f.no = opn
theorem filesFrom_iff (opn : Int) : ∀ (l : List SFile) (last many : Int), filesFrom last opn many l = true ↔ (List.Pairwise (· < ·) (last :: l.map (·.no))) ∧ (∀ f ∈ l, FileOk opn f) ∧ (l = [] ∨ many + totalOf l ≤ 120)
  | [], last, many => by simp [filesFrom]
  | f :: l, last, many => by
    simp only [filesFrom, Bool.and_eq_true, decide_eq_true_eq, Bool.or_eq_true, beq_iff_eq]
    rw [filesFrom_iff opn l f.no (many + f.recs.length)]
    simp only [List.map_cons, List.pairwise_cons, List.mem_cons, List.mem_map, totalOf, List.sum_cons, reduceCtorEq, false_or]
    constructor
    · rintro ⟨h1, h2, h3, h4, h5, h6, ⟨h7, h8⟩, h9, h10⟩
      refine ⟨⟨fun x hx => ?_, h7, h8⟩, fun g hg => ?_, ?_⟩
      · rcases hx with rfl | ⟨g, hg, rfl⟩
        · exact h1
        · have := h7 g.no ⟨g, hg, rfl⟩
          omega
      · rcases hg with rfl | hg
        · exact ⟨h2, h3, h4, h5⟩
        · exact h9 g hg
      · rcases h10 with rfl | h10
        · simp; omega
        · omega
    · rintro ⟨⟨h1, h2, h3⟩, h4, h5⟩
      obtain ⟨k1, k2, k3, k4⟩ := h4 f (.inl rfl)
      refine ⟨h1 f.no (.inl rfl), k1, k2, k3, k4, by omega, ⟨h2, h3⟩, fun g hg => h4 g (.inr hg), .inr (by omega)⟩
theorem listedFrom_iff (fs : List SFile) : ∀ (l pre : List Int), listedFrom fs pre l = true ↔ (∀ no ∈ l, (placeI no fs 0).isSome = true) ∧ (∀ no ∈ l, no ∉ pre) ∧ l.Nodup
  | [], pre => by simp [listedFrom]
  | no :: l, pre => by
    simp only [listedFrom, Bool.and_eq_true, Bool.not_eq_true']
    rw [listedFrom_iff fs l (pre ++ [no])]
    simp only [List.contains_eq_mem, decide_eq_false_iff_not, List.mem_cons, List.nodup_cons, List.mem_append, List.not_mem_nil, or_false]
    constructor
    · rintro ⟨h1, h2, h3, h4, h5⟩
      refine ⟨fun x hx => ?_, fun x hx => ?_, fun h => h4 no h (.inr rfl), h5⟩
      · rcases hx with rfl | hx
        · exact h1
        · exact h3 x hx
      · rcases hx with rfl | hx
        · exact h2
        · exact fun h => h4 x hx (.inl h)
    · rintro ⟨h1, h2, h3, h4⟩
      exact ⟨h1 no (.inl rfl), h2 no (.inl rfl), fun x hx => h1 x (.inr hx), fun x hx h => by
        rcases h with h | rfl
        · exact h2 x (.inr hx) h
        · exact h3 hx, h4⟩
/-- A formed device. -/
structure DiskOk (d : SDisk) : Prop where
  ne : d.list ≠ []
  few : d.list.length ≤ 8
  placed : ∀ no ∈ d.list, (placeI no d.files 0).isSome = true
  nodup : d.list.Nodup
  sorted : List.Pairwise (· < ·) (0 :: d.files.map (·.no))
  each : ∀ f ∈ d.files, FileOk (openNo d) f
  total : totalOf d.files ≤ 120
  formed : formedB (thereOf d) 4 = true
theorem disk_iff (d : SDisk) : diskB d = true ↔ DiskOk d := by
  unfold diskB shapedB listB
  simp only [Bool.and_eq_true, Bool.not_eq_true', List.isEmpty_eq_false_iff, decide_eq_true_eq]
  rw [filesFrom_iff, listedFrom_iff]
  constructor
  · rintro ⟨⟨⟨h1, h2, h3, _, h4⟩, h5, h6, h7⟩, h8⟩
    refine ⟨h1, h2, h3, h4, h5, h6, ?_, h8⟩
    rcases h7 with h7 | h7
    · rw [h7]; simp [totalOf]
    · omega
  · rintro ⟨h1, h2, h3, h4, h5, h6, h7, h8⟩
    exact ⟨⟨⟨h1, h2, h3, by simp, h4⟩, h5, h6, .inr (by omega)⟩, h8⟩
end Go.Proofs.Ytfmojgdomficlaa
set_option linter.unusedVariables false
set_option linter.unusedSimpArgs false
/-! Rows of structs that a call has made. -/
namespace Go.Proofs.Ytfmojgdomficlaa
open Go.RowKit Go.Proofs.YtfmojgdomficlaaW.PrintWords

/-- A slice of the call's own (made from the block number base on). -/
abbrev Own {α : Type} (d : Kd α) (e : Nat) (w : World) (base : Nat) (v : Value) (xs : List α) : Prop := Kd.R d e w base (fun _ => True) v xs
theorem own_reads' {α : Type} {d : Kd α} {e base : Nat} {w : World} {v : Value} {xs : List α} (h : Own d e w base v xs) : ∃ A c, v = .slice A xs.length c ∧ xs.length ≤ c ∧ d.C w A xs.length xs := Kd.R_reads h
theorem kEvent_mkM (w : World) (base : Nat) (ok : Nat → Prop) (x : Event) : kEvent.M w base ok x [.int .i64 x.src, .int .i64 x.id, .int .i64 x.body.at_, .int .i64 x.body.key, .int .i64 x.body.val] :=
  ⟨[_], _, rfl, rfl, [_], _, rfl, rfl, [_], _, rfl, rfl, [_], [_], rfl, rfl, rfl⟩
/-- A literal of one element. -/
theorem own_one {α : Type} (d : Kd α) (e : Nat) (W : World) (base : Nat) (hb : base ≤ W.heap.size) (x : α) (cs : List Value) (hM : ∀ w, d.M w base (fun _ => False) x cs) :
    Own d e (W.alloc (.cells cs.toArray e)) base (.slice (some ⟨W.heap.size, 0, none⟩) 1 1) [x] := by
  have hl : cs.length = d.sz := d.K_len (d.K_of_M (hM W))
  refine ⟨fun _ _ => trivial, cs, ?_, ?_⟩
  · have h2 := World.ownsRow_lit (base := base) (e := e) (size := d.sz) W cs.toArray 1 hb (by simp [maxLen]) (by simpa using hl)
    simpa using h2
  · refine ⟨by simpa using hl, fun j p hj => ?_⟩
    rcases j with _ | j
    · have : x = p := by simpa using hj
      subst this
      have e1 : (cs.drop (0 * d.sz)).take d.sz = cs := by rw [Nat.zero_mul, List.drop_zero, ← hl, List.take_length]
      rw [e1]
      exact d.M_mono (fun _ h => h.elim) (hM _)
    · simp at hj
theorem event_at {w : World} {A : Option Addr} {n : Nat} {l : List Event} (h : Kd.C kEvent w A n l) (k : Nat) (hk : k < n) :
    ∃ x ad, l.drop k = x :: l.drop (k + 1) ∧ l.take (k + 1) = l.take k ++ [x] ∧ l[k]? = some x ∧ A = some ad ∧ w.cell? (ad.add (k * 5)) = some (.int .i64 x.src) ∧
      w.cell? ⟨(ad.add (k * 5)).block, (ad.add (k * 5)).off + 1, none⟩ = some (.int .i64 x.id) ∧ w.cell? ⟨(ad.add (k * 5)).block, (ad.add (k * 5)).off + 2, none⟩ = some (.int .i64 x.body.at_) ∧
      w.cell? ⟨(ad.add (k * 5)).block, (ad.add (k * 5)).off + 3, none⟩ = some (.int .i64 x.body.key) ∧ w.cell? ⟨(ad.add (k * 5)).block, (ad.add (k * 5)).off + 4, none⟩ = some (.int .i64 x.body.val) := by
  obtain ⟨x, c, ad, h1, h2, h3, h4, h5, h6⟩ := row_at h k hk
  obtain rfl := kEvent_open h5
  have hc : ∀ j u, [Value.int .i64 x.src, .int .i64 x.id, .int .i64 x.body.at_, .int .i64 x.body.key, .int .i64 x.body.val][j]? = some u → w.cell? (ad.add (k * 5 + j)) = some u := h6
  exact ⟨x, ad, h1, h2, h3, h4, hc 0 _ rfl, by rw [← add_field _ _ 1 (by omega)]; exact hc 1 _ rfl, by rw [← add_field _ _ 2 (by omega)]; exact hc 2 _ rfl, by rw [← add_field _ _ 3 (by omega)]; exact hc 3 _ rfl, by rw [← add_field _ _ 4 (by omega)]; exact hc 4 _ rfl⟩
theorem int_at {w : World} {A : Option Addr} {n : Nat} {l : List Int} (h : Kd.C (Kd.int .i64) w A n l) (k : Nat) (hk : k < n) :
    ∃ x ad, l.drop k = x :: l.drop (k + 1) ∧ l.take (k + 1) = l.take k ++ [x] ∧ l[k]? = some x ∧ A = some ad ∧ w.cell? (ad.add k) = some (.int .i64 x) := by
  obtain ⟨x, c, ad, h1, h2, h3, h4, h5, h6⟩ := row_at h k hk
  have hc : c = [.int .i64 x] := h5
  subst hc
  have h7 := h6 0 _ rfl
  simp only [show (Kd.int .i64).sz = 1 from rfl, Nat.mul_one, Nat.add_zero] at h7
  exact ⟨x, ad, h1, h2, h3, h4, h7⟩
end Go.Proofs.Ytfmojgdomficlaa
set_option linter.unusedVariables false
set_option linter.unusedSimpArgs false
/-! Ranges over functions: the marks that they leave among the deferred calls; rows of the call's own in the rounds. -/
namespace Go.Proofs.Ytfmojgdomficlaa
open Go.RowKit Go.Shelf Go.Proofs.YtfmojgdomficlaaW.PrintWords

theorem wide_fn (f : FuncId) : Fence.wide.fn f = True := rfl
theorem wide_depth : Fence.wide.depth = none := rfl
attribute [go_sem] wide_fn wide_depth Fence.inRound_fn Fence.inRound_depth
theorem below_base {B : Nat} {w W W' : World} (h : Below B w W) (hB : Below W.heap.size W W') (hle : B ≤ W.heap.size) : Below B w W' := h.trans (hB.mono hle)
theorem abides_below {β : Type} {B : Nat} {J : β → World → Prop} (hJ : AbidesFrom B J) {s : β} {W W' : World} (hs : J s W) (hb : Below W.heap.size W W') : J s W' :=
  hJ s W W' none hs ⟨hb.os, hb.tape, hb.output, hb.size, fun k hk _ => hb.block k hk⟩ (fun r h => by cases h)
theorem cell_keep {w wr : World} (hB : Below w.heap.size w wr) {p : Addr} {v : Value} (h : w.cell? p = some v) : wr.cell? p = some v := (hB.cell (World.block_lt_of_cell? w _ h)).trans h
/-- Cells lie as they lay. -/
def KeepsCells (w w' : World) : Prop := ∀ (k : Nat) (o : Obj), w.heap[k]? = some o → o.isCells = true → w'.heap[k]? = some o
theorem R_cells {α : Type} {d : Kd α} {e : Nat} {w w1 : World} {base : Nat} {ok : Nat → Prop} {v : Value} {xs : List α} (h : d.R e w base ok v xs) (hk : KeepsCells w w1) : d.R e w1 base ok v xs :=
  Kd.R_mono (Kd.R_move (Kd.R_bound h) (fun k ⟨_, _, _, q, _, cells, hc⟩ => (hk k _ hc rfl).trans hc.symm)) (fun _ hk => hk.1)
theorem R_turned {α : Type} {d : Kd α} {e : Nat} {w w1 : World} {base : Nat} {ok : Nat → Prop} {v : Value} {xs : List α} (h : d.R e w base ok v xs) {row : Option Nat} (hg : w.grownBy w1 row) (hr : ∀ r, row = some r → ∃ o : Obj, w.heap[r]? = some o ∧ o.isCells = false) : d.R e w1 base ok v xs :=
  R_cells h fun k o hk ho => (hg.block k (Array.getElem?_eq_some_iff.1 hk).1 (fun e => by
    obtain ⟨o', h1, h2⟩ := hr k e.symm
    rw [hk] at h1; cases h1; rw [ho] at h2; cases h2)).trans hk
theorem R_ne_lt {α : Type} {d : Kd α} {e : Nat} {w : World} {base : Nat} {ok : Nat → Prop} {v : Value} {xs : List α} (h : d.R e w base ok v xs) {b : Nat} (hb : b < base) : some b ≠ v.ownBlock := fun e => by
  have := ((Kd.R_bound h).1 b e.symm).2.1
  omega
theorem R_slice' {α : Type} {d : Kd α} {e : Nat} {w : World} {base : Nat} {ok : Nat → Prop} {v : Value} {xs : List α} (h : d.R e w base ok v xs) : ∃ A n c, v = .slice A n c := by
  obtain ⟨A, c, he⟩ := Kd.R_slice h
  exact ⟨A, _, c, he⟩
/-- The marks that ranges over functions have left. -/
structure Marks (n0 : Nat) (w : World) (Ds : List Nat) : Prop where
  nodup : Ds.Nodup
  held : ∀ D ∈ Ds, n0 ≤ D ∧ w.heap[D]? = some (.deferred (some []))
def markDefers (Ds : List Nat) : List Deferred := Ds.map fun D => { target := .collected D, args := #[] }
theorem Marks.none (n0 : Nat) (w : World) : Marks n0 w [] := ⟨List.nodup_nil, fun _ h => by simp at h⟩
theorem Marks.cons {n0 B : Nat} {w : World} {Ds : List Nat} (h : Marks n0 w Ds) (hlt : ∀ E ∈ Ds, E < B) {D : Nat} (hD : B ≤ D) (hn : n0 ≤ B) (hK : w.heap[D]? = some (.deferred (some []))) : Marks n0 w (D :: Ds) :=
  ⟨List.nodup_cons.2 ⟨fun hm => by have := hlt D hm; omega, h.nodup⟩, fun E hE => by
    rcases List.mem_cons.1 hE with rfl | hE
    · exact ⟨by omega, hK⟩
    · exact h.held E hE⟩
theorem Marks.keep {n0 : Nat} {w w' : World} {Ds : List Nat} (h : Marks n0 w Ds) (hk : ∀ (k : Nat) (o : Obj), w.heap[k]? = some o → o.isCells = false → w'.heap[k]? = some o) : Marks n0 w' Ds :=
  ⟨h.nodup, fun E hE => ⟨(h.held E hE).1, hk E _ (h.held E hE).2 rfl⟩⟩
theorem Marks.below {n0 : Nat} {w w' : World} {Ds : List Nat} (h : Marks n0 w Ds) (hk : Below w.heap.size w w') : Marks n0 w' Ds :=
  h.keep fun k o hk' _ => (hk.block k (Array.getElem?_eq_some_iff.1 hk').1).trans hk'
theorem Marks.turned {n0 B : Nat} {w w' : World} {Ds : List Nat} (h : Marks n0 w Ds) (hB : ∀ D ∈ Ds, D < B) {row : Option Nat} (hg : w.grownBy w' row) (hr : ∀ r, row = some r → B ≤ r) : Marks n0 w' Ds :=
  ⟨h.nodup, fun E hE => ⟨(h.held E hE).1, (hg.block E (Array.getElem?_eq_some_iff.1 (h.held E hE).2).1 (fun e => by have := hr E e.symm; have := hB E hE; omega)).trans (h.held E hE).2⟩⟩
theorem Marks.lt {n0 : Nat} {w : World} {Ds : List Nat} (h : Marks n0 w Ds) : ∀ D ∈ Ds, D < w.heap.size := fun D hD => (Array.getElem?_eq_some_iff.1 (h.held D hD).2).1
theorem Marks.others {n0 : Nat} {w w' : World} {Ds : List Nat} (h : Marks n0 w Ds) (hk : KeepsOthers w w') : Marks n0 w' Ds := h.keep hk.same
theorem R_keeps {α : Type} {d : Kd α} {e : Nat} {w w1 : World} {base : Nat} {ok : Nat → Prop} {v : Value} {xs : List α} (h : d.R e w base ok v xs) (hg : w.grownBy w1 v.ownBlock) : KeepsOthers w w1 :=
  ⟨hg.size, fun k o hk ho => (hg.block k (Array.getElem?_eq_some_iff.1 hk).1 (fun e => by
    obtain ⟨_, _, _, q, _, cells, hc⟩ := (Kd.R_bound h).1 k e.symm
    rw [hk] at hc; cases hc; cases ho)).trans hk⟩
theorem R_set_low {α : Type} {d : Kd α} {e : Nat} {w : World} {base : Nat} {ok : Nat → Prop} {v : Value} {xs : List α} (h : d.R e w base ok v xs) {p : Addr} (hb : p.block < base) (u : Value) : d.R e (w.setCell p u) base ok v xs :=
  Kd.R_mono (Kd.R_far (Kd.R_bound h) (fun k hk => by have := hk.2.1; omega) u) (fun _ hk => hk.1)
/-- A block of cells that is known whole. -/
def Cells (W : World) (B : Nat) (cs : Array Value) (t : TypeId) : Prop := W.heap[B]? = some (.cells cs t (0, 0))
theorem Cells.turned {W W' : World} {B : Nat} {cs : Array Value} {t : TypeId} (h : Cells W B cs t) {row : Option Nat} (hg : W.grownBy W' row) (hr : ∀ r, row = some r → ∃ o : Obj, W.heap[r]? = some o ∧ o.isCells = false) : Cells W' B cs t :=
  (hg.block B (Array.getElem?_eq_some_iff.1 h).1 (fun e => by
    obtain ⟨o, h1, h2⟩ := hr B e.symm
    rw [show W.heap[B]? = _ from h] at h1; cases h1; cases h2)).trans h
theorem Cells.later {W W' : World} {B : Nat} {cs : Array Value} {t : TypeId} (h : Cells W B cs t) (hb : Below W.heap.size W W') : Cells W' B cs t := (hb.block B (Array.getElem?_eq_some_iff.1 h).1).trans h
theorem Cells.lt {W : World} {B : Nat} {cs : Array Value} {t : TypeId} (h : Cells W B cs t) : B < W.heap.size := (Array.getElem?_eq_some_iff.1 h).1
theorem Cells.new (W : World) (cs : Array Value) (t : TypeId) : Cells (W.alloc (.cells cs t)) W.heap.size cs t := heap_alloc_new W (.cells cs t)
theorem Cells.cell {W : World} {B : Nat} {cs : Array Value} {t : TypeId} (h : Cells W B cs t) (k : Nat) (v : Value) (hk : cs[k]? = some v) : W.cell? ⟨B, k, none⟩ = some v := by simp [World.cell?, show W.heap[B]? = _ from h, hk]
theorem Cells.frozen {W : World} {B : Nat} {cs : Array Value} {t : TypeId} (h : Cells W B cs t) (k : Nat) : W.frozen? ⟨B, k, none⟩ = false := by simp [World.frozen?, show W.heap[B]? = _ from h]
theorem Cells.kept {W W' : World} {B : Nat} {cs : Array Value} {t : TypeId} (h : Cells W B cs t) {row : Option Nat} (hg : W.grownBy W' row) (hne : some B ≠ row) : Cells W' B cs t := (hg.block B h.lt hne).trans h
theorem Cells.set {W : World} {B : Nat} {v : Value} {t : TypeId} (h : Cells W B #[v] t) (u : Value) : Cells (W.setCell ⟨B, 0, none⟩ u) B #[u] t := by
  have hl := h.lt
  unfold Cells at h ⊢
  have h2 : W.heap[B] = Obj.cells #[v] t (0, 0) := by simpa [Array.getElem?_eq_getElem hl] using h
  show (W.heap.modify B _)[B]? = _
  rw [Array.getElem?_eq_getElem (by simpa using hl), Array.getElem_modify_self, h2]
  simp
theorem Cells.setAt {W : World} {B : Nat} {cs : Array Value} {t : TypeId} (h : Cells W B cs t) (k : Nat) (u : Value) : Cells (W.setCell ⟨B, k, none⟩ u) B (cs.setIfInBounds k u) t := by
  have hl := h.lt
  unfold Cells at h ⊢
  have h2 : W.heap[B] = Obj.cells cs t (0, 0) := by simpa [Array.getElem?_eq_getElem hl] using h
  show (W.heap.modify B _)[B]? = _
  rw [Array.getElem?_eq_getElem (by simpa using hl), Array.getElem_modify_self, h2]
  rfl
/-- A function's way out through marks. -/
theorem leaves_marks {n n0 : Nat} {P : Program} {fn : Func} {tmps : Array Value} {R : Ending → World → Prop} {v : Value} (hres : ∀ w', (results fn tmps).run P w' = .ok v w') :
    ∀ (Ds : List Nat) (w : World), Marks n0 w Ds → n0 ≤ w.heap.size → (∀ w', Below n0 w w' → KeepsCells w w' → R (.returned v) w') → LeavesInM Fence.wide n P fn tmps R (markDefers Ds) .returning w
  | [], w, _, _, h => ⟨v, hres w, h w (Below.refl _ _) fun _ _ h _ => h⟩
  | D :: Ds, w, hm, hn, h => by
    obtain ⟨h1, h2⟩ := hm.held D List.mem_cons_self
    have hb : Below n0 w (w.putObj D (.deferred none)) := (Below.refl n0 w).grown (grownBy_putObj' w D (.deferred none)) hn (fun k e => by cases e; exact h1)
    refine ⟨by simp, .inl ⟨D, _, rfl, run_takeDeferred h2, leaves_marks hres Ds _ ⟨(List.nodup_cons.1 hm.nodup).2, fun E hE => ⟨(hm.held E (List.mem_cons_of_mem _ hE)).1, (World.putObj_heap_other (fun e => by subst e; exact (List.nodup_cons.1 hm.nodup).1 hE)).trans (hm.held E (List.mem_cons_of_mem _ hE)).2⟩⟩ (Nat.le_trans hn hb.size) fun w' hb' hk' => h w' (hb.trans hb') fun k o hk ho => ?_⟩⟩
    refine hk' k o ((World.putObj_heap_other (fun e => ?_)).trans hk) ho
    subst e; rw [h2] at hk; cases hk; cases ho
section
variable {F : Fence} {nF : Nat} {P : Program} {ops : Array Oper} {rest : List Oper} {o : Oper} {a : Act} {Q : Exit → Act → World → Prop} {α : Type}
/-- append(v, x) in a round, behind 'gi_at_builtin'; the goal's world is 'W.alloc' of the variadic's box. -/
theorem R_appendIn (d : Kd α) {w0 W : World} (base : Nat) (hgd : o.guard = none) (s x : Operand) (t e : TypeId) (z : Value) (bytes : Nat)
    (ho : o.op = .call { callee := .builtin .append, args := #[s, x], argTypes := #[t, t] })
    (ht : P.underlying t = some (.slice e)) (hinfo : (P.info? e).map (fun i => (i.zero, i.size, i.bytes)) = some (some z, d.sz, bytes)) (hz : z.cells.size = d.sz) (hs0 : 0 < d.sz) (hb0 : 0 < bytes)
    (v : Value) (xs : List α) (p : α) (cs : List Value) (hs : a.eval s = v) (hx : a.eval x = .slice (some ⟨W.heap.size, 0, none⟩) 1 1) (hp : ∀ w, d.M w base (fun _ => False) p cs)
    (HO : d.R e W base (fun _ => True) v xs) (HB : Below base w0 W) (hbase : base ≤ W.heap.size) (hl : (xs.length + 1) * bytes ≤ 140737488355328)
    (h : ∀ v1 w1, d.R e w1 base (fun _ => True) v1 (xs ++ [p]) → Below base w0 w1 → W.grownBy w1 v.ownBlock → (v1.ownBlock = v.ownBlock ∨ ∃ b, v1.ownBlock = some b ∧ W.heap.size ≤ b) → wpListIn F nF P ops Q rest (a.put o.dst v1) w1) :
    wpListIn F nF P ops Q (o :: rest) a (W.alloc (.cells cs.toArray e)) := by
  obtain ⟨h0, inner, hown, hr⟩ := HO
  obtain ⟨i0, hi, hzz⟩ := Option.map_eq_some_iff.1 hinfo
  simp only [Prod.mk.injEq] at hzz
  obtain ⟨hz0, hz1, hz2⟩ := hzz
  have hlen : xs.length + 1 ≤ 140737488355328 := Nat.le_trans (Nat.le_mul_of_pos_right _ hb0) hl
  have hK := d.K_of_M (hp W)
  refine wpListIn_append_own_at (W.alloc (.cells cs.toArray e)) hgd s x t ho base e i0 z d.sz bytes ht hi hz0 hz1 hz2 hz hs0 v xs.length inner hs (hown.alloc _) ⟨W.heap.size, 0, none⟩ 1 1 cs hx (by rw [d.K_len hK]; simp)
    (by simpa using World.news_of_block (cs := cs.toArray) (t := e) (fr := (0, 0)) (heap_alloc_new W (.cells cs.toArray e))) (d.K_one hK) (by simp only [maxLen]; omega) hl (by simp; omega) ?_
  intro v1 w1 hown1 hg _ hat
  have hg1 : W.grownBy w1 v.ownBlock := World.grownBy.trans (World.grownBy_alloc W _ _) hg
  have hat1 : v1.ownBlock = v.ownBlock ∨ ∃ b, v1.ownBlock = some b ∧ W.heap.size ≤ b := by
    rcases hat with hat | hat
    · exact .inl hat
    · exact .inr ⟨_, hat, by simp⟩
  exact h v1 w1 (Kd.R_appended h0 hr (hp W) (fun _ h => h.elim) (fun _ _ => trivial) hown1 hg1 hat1) ((HB.alloc hbase _).grown hg (by simp; omega) (own_base hown)) hg1 hat1
end
end Go.Proofs.Ytfmojgdomficlaa
set_option linter.unusedVariables false
set_option linter.unusedSimpArgs false
/-! Devices in memory. -/
namespace Go.Proofs.Ytfmojgdomficlaa
open Go.RowKit Go.Proofs.YtfmojgdomficlaaW.PrintWords

def kSRec : Kd SRec := Kd.iso (Kd.pair kNews (Kd.int .i64)) (fun x : SRec => (x.news, x.sum))
theorem kSRec_open {w : World} {x : SRec} {cs : List Value} (h : kSRec.K w x cs) : cs = [.int .i64 x.news.do_, .int .i64 x.news.src, .int .i64 x.news.id, .int .i64 x.news.ver, .int .i64 x.news.body.at_, .int .i64 x.news.body.key, .int .i64 x.news.body.val, .int .i64 x.sum] := by
  obtain ⟨c1, c2, rfl, h1, rfl⟩ := h
  obtain rfl := kNews_open h1; rfl
theorem kSRec_mk (w : World) (x : SRec) : kSRec.K w x [.int .i64 x.news.do_, .int .i64 x.news.src, .int .i64 x.news.id, .int .i64 x.news.ver, .int .i64 x.news.body.at_, .int .i64 x.news.body.key, .int .i64 x.news.body.val, .int .i64 x.sum] := ⟨_, [_], rfl, kNews_mk w x.news, rfl⟩
theorem kSRec_mkM (w : World) (base : Nat) (ok : Nat → Prop) (x : SRec) : kSRec.M w base ok x [.int .i64 x.news.do_, .int .i64 x.news.src, .int .i64 x.news.id, .int .i64 x.news.ver, .int .i64 x.news.body.at_, .int .i64 x.news.body.key, .int .i64 x.news.body.val, .int .i64 x.sum] := ⟨_, [_], rfl, kNews_mkM w base ok x.news, rfl⟩
def kSFile : Kd SFile := Kd.iso (Kd.pair (Kd.int .i64) (Kd.pair (Kd.slice 83 kSRec) (Kd.int .i64))) (fun x : SFile => (x.no, x.recs, x.safe))
theorem kSFile_open {w : World} {x : SFile} {cs : List Value} (h : kSFile.K w x cs) : ∃ A c, cs = [.int .i64 x.no, .slice A x.recs.length c, .int .i64 x.safe] ∧ x.recs.length ≤ c ∧ Kd.C kSRec w A x.recs.length x.recs := by
  obtain ⟨c1, c2, rfl, rfl, c3, c4, rfl, ⟨A, c, rfl, h1, h2⟩, rfl⟩ := h
  exact ⟨A, c, rfl, h1, h2⟩
theorem kSFile_mk {w : World} (x : SFile) (A : Option Addr) (c : Nat) (hc : x.recs.length ≤ c) (hr : Kd.C kSRec w A x.recs.length x.recs) : kSFile.K w x [.int .i64 x.no, .slice A x.recs.length c, .int .i64 x.safe] :=
  ⟨[_], _, rfl, rfl, [_], [_], rfl, ⟨A, c, rfl, hc, hr⟩, rfl⟩
abbrev RecRow (w : World) (A : Option Addr) (n : Nat) (l : List SRec) : Prop := Kd.C kSRec w A n l
abbrev FileRow (w : World) (A : Option Addr) (n : Nat) (l : List SFile) : Prop := Kd.C kSFile w A n l
abbrev IntRow (w : World) (A : Option Addr) (n : Nat) (l : List Int) : Prop := Kd.C (Kd.int .i64) w A n l
theorem srec_at {w : World} {A : Option Addr} {n : Nat} {l : List SRec} (h : RecRow w A n l) (k : Nat) (hk : k < n) :
    ∃ x ad, l.drop k = x :: l.drop (k + 1) ∧ l.take (k + 1) = l.take k ++ [x] ∧ l[k]? = some x ∧ A = some ad ∧ w.cell? (ad.add (k * 8)) = some (.int .i64 x.news.do_) ∧
      w.cell? ⟨(ad.add (k * 8)).block, (ad.add (k * 8)).off + 1, none⟩ = some (.int .i64 x.news.src) ∧ w.cell? ⟨(ad.add (k * 8)).block, (ad.add (k * 8)).off + 2, none⟩ = some (.int .i64 x.news.id) ∧
      w.cell? ⟨(ad.add (k * 8)).block, (ad.add (k * 8)).off + 3, none⟩ = some (.int .i64 x.news.ver) ∧ w.cell? ⟨(ad.add (k * 8)).block, (ad.add (k * 8)).off + 4, none⟩ = some (.int .i64 x.news.body.at_) ∧
      w.cell? ⟨(ad.add (k * 8)).block, (ad.add (k * 8)).off + 5, none⟩ = some (.int .i64 x.news.body.key) ∧ w.cell? ⟨(ad.add (k * 8)).block, (ad.add (k * 8)).off + 6, none⟩ = some (.int .i64 x.news.body.val) ∧ w.cell? ⟨(ad.add (k * 8)).block, (ad.add (k * 8)).off + 7, none⟩ = some (.int .i64 x.sum) := by
  obtain ⟨x, c, ad, h1, h2, h3, h4, h5, h6⟩ := row_at h k hk
  obtain rfl := kSRec_open h5
  have hc : ∀ j u, [.int .i64 x.news.do_, .int .i64 x.news.src, .int .i64 x.news.id, .int .i64 x.news.ver, .int .i64 x.news.body.at_, .int .i64 x.news.body.key, .int .i64 x.news.body.val, .int .i64 x.sum][j]? = some u → w.cell? (ad.add (k * 8 + j)) = some u := h6
  exact ⟨x, ad, h1, h2, h3, h4, hc 0 _ rfl, by rw [← add_field _ _ 1 (by omega)]; exact hc 1 _ rfl, by rw [← add_field _ _ 2 (by omega)]; exact hc 2 _ rfl, by rw [← add_field _ _ 3 (by omega)]; exact hc 3 _ rfl, by rw [← add_field _ _ 4 (by omega)]; exact hc 4 _ rfl, by rw [← add_field _ _ 5 (by omega)]; exact hc 5 _ rfl, by rw [← add_field _ _ 6 (by omega)]; exact hc 6 _ rfl, by rw [← add_field _ _ 7 (by omega)]; exact hc 7 _ rfl⟩
theorem sfile_at {w : World} {A : Option Addr} {n : Nat} {l : List SFile} (h : FileRow w A n l) (k : Nat) (hk : k < n) :
    ∃ x ad Ar cr, l.drop k = x :: l.drop (k + 1) ∧ l.take (k + 1) = l.take k ++ [x] ∧ l[k]? = some x ∧ A = some ad ∧ w.cell? (ad.add (k * 3)) = some (.int .i64 x.no) ∧
      w.cell? ⟨(ad.add (k * 3)).block, (ad.add (k * 3)).off + 1, none⟩ = some (.slice Ar x.recs.length cr) ∧ w.cell? ⟨(ad.add (k * 3)).block, (ad.add (k * 3)).off + 2, none⟩ = some (.int .i64 x.safe) ∧ x.recs.length ≤ cr ∧ RecRow w Ar x.recs.length x.recs := by
  obtain ⟨x, c, ad, h1, h2, h3, h4, h5, h6⟩ := row_at h k hk
  obtain ⟨Ar, cr, rfl, h7, h8⟩ := kSFile_open h5
  have hc : ∀ j u, [Value.int .i64 x.no, .slice Ar x.recs.length cr, .int .i64 x.safe][j]? = some u → w.cell? (ad.add (k * 3 + j)) = some u := h6
  exact ⟨x, ad, Ar, cr, h1, h2, h3, h4, hc 0 _ rfl, by rw [← add_field _ _ 1 (by omega)]; exact hc 1 _ rfl, by rw [← add_field _ _ 2 (by omega)]; exact hc 2 _ rfl, h7, h8⟩
/-- A device's two rows. -/
structure DRows (w : World) (Af : Option Addr) (cf : Nat) (Al : Option Addr) (cl : Nat) (d : SDisk) : Prop where
  files : FileRow w Af d.files.length d.files
  list : IntRow w Al d.list.length d.list
  capf : d.files.length ≤ cf
  capl : d.list.length ≤ cl
/-- A device in a block. -/
structure DAt (w : World) (b : Nat) (Af : Option Addr) (cf : Nat) (Al : Option Addr) (cl : Nat) (d : SDisk) : Prop extends DRows w Af cf Al cl d where
  c0 : w.cell? ⟨b, 0, none⟩ = some (.slice Af d.files.length cf)
  c1 : w.cell? ⟨b, 1, none⟩ = some (.slice Al d.list.length cl)
theorem DRows.later {w w' : World} {Af Al : Option Addr} {cf cl : Nat} {d : SDisk} (h : DRows w Af cf Al cl d) (hb : Below w.heap.size w w') : DRows w' Af cf Al cl d :=
  ⟨Kd.C_below h.files hb, Kd.C_below h.list hb, h.capf, h.capl⟩
theorem DAt.later {w w' : World} {b : Nat} {Af Al : Option Addr} {cf cl : Nat} {d : SDisk} (h : DAt w b Af cf Al cl d) (hb : Below w.heap.size w w') : DAt w' b Af cf Al cl d :=
  ⟨h.toDRows.later hb, cell_later' hb h.c0, cell_later' hb h.c1⟩
end Go.Proofs.Ytfmojgdomficlaa
set_option linter.unusedVariables false
set_option linter.unusedSimpArgs false
/-! A region that draws its order, walked once in an order that is written down: what is calm in a class of worlds (one value in every world of it; the world is let alone, or a callee makes memory of its own) may be taken at any time; all else only where nothing else can come up; behind it the class may be narrowed. -/
namespace Go.Proofs.Ytfmojgdomficlaa
open Go Go.RowKit
section
variable {P : Program} {md : Region.Mode} {ops : Array Oper} {Q : Exit → Act → World → Prop}

/-- A class of worlds that a callee's own memory does not lead out of. -/
def Stable (C : World → Prop) : Prop := ∀ w w', C w → Below w.heap.size w w' → C w'

/-- A world of the class (nothing looks into it till it is opened). -/
structure In (C : World → Prop) (w : World) : Prop where
  out : C w
/-- What is asked of one operation behind its run in the world w: it yields v and lets the world alone, or it is a call that hands v back and only makes memory. -/
def calmUpon (P : Program) (w : World) (v : Value) : Result Next → Prop
  | .ok (.value u) w' => w' = w ∧ u = v
  | .ok .skip w' => w' = w ∧ v = undef
  | .ok (.enter f args) w' => w' = w ∧ Calls P f args w (fun e w'' => e = .returned v ∧ Below w.heap.size w w'')
  | _ => False
def calmAt (P : Program) (o : Oper) (a : Act) (w : World) (v : Value) : Prop := calmUpon P w v ((execOp a.eval o).run P w)
attribute [go_sem] calmAt calmUpon

def YieldsC (P : Program) (ops : Array Oper) (C : World → Prop) (o : Oper) (v : Value) (a : Act) : Prop :=
  (Region.wanted o (yielded ops a.tmps) = true ∧ ∀ w, C w → calmAt P o a w v) ∨ (Region.wanted o (yielded ops a.tmps) = false ∧ v = undef)

theorem YieldsC.same {C : World → Prop} {o : Oper} {v : Value} {a a' : Act} (hy : YieldsC P ops C o v a) (he : execOp a'.eval o = execOp a.eval o) (hw : Region.wanted o (yielded ops a'.tmps) = Region.wanted o (yielded ops a.tmps)) : YieldsC P ops C o v a' := by
  unfold YieldsC calmAt at *
  rw [he, hw]
  exact hy
theorem YieldsC.narrow {C C' : World → Prop} {o : Oper} {v : Value} {a : Act} (hy : YieldsC P ops C o v a) (h : ∀ w, C' w → C w) : YieldsC P ops C' o v a :=
  hy.imp (fun ⟨h1, h2⟩ => ⟨h1, fun w hw => h2 w (h w hw)⟩) id
theorem YieldsC.wpOp {C : World → Prop} {i : Nat} {o : Oper} {v : Value} {a : Act} (hi : ops[i]? = some o) (hst : Stable C) (hy : YieldsC P ops C o v a) {K : Act → World → Prop} {w : World} (hw : C w) (h : ∀ w', C w' → K (a.put o.dst v) w') : wpOp P ops Q i K a w := by
  unfold Go.wpOp
  simp only [hi]
  rcases hy with ⟨h1, h2⟩ | ⟨h1, rfl⟩
  · simp only [h1, if_true]
    left
    have h3 := h2 w hw
    unfold calmAt at h3
    unfold Oper.wp
    generalize (execOp a.eval o).run P w = r at *
    cases r with
    | ok n w' =>
      cases n <;> simp only [calmUpon] at h3 <;> simp only [Oper.upon]
      case value u =>
        obtain ⟨e1, e2⟩ := h3
        rw [e1, e2]
        exact h _ hw
      case skip =>
        obtain ⟨e1, e2⟩ := h3
        rw [e1, ← e2]
        exact h _ hw
      case enter f args =>
        obtain ⟨e1, hc⟩ := h3
        rw [e1]
        exact hc.mono fun e w'' ⟨he, hb⟩ => by subst he; exact h _ (hst _ _ hw hb)
    | halt x w' => simp only [calmUpon] at h3
  · simp only [h1, Bool.false_eq_true, if_false]
    exact h _ hw
/-- What is apart from a calm operation does not see whether that one has been. -/
theorem wpOp_apart {C : World → Prop} {j : Nat} {oi oj : Oper} {v : Value} (hj : ops[j]? = some oj) (hap : oi.apart ops oj = true) (hsi : ∀ cs b, oi.op ≠ .select cs b) (hsj : ∀ cs b, oj.op ≠ .select cs b)
    (hQ : ∀ c a w, Q (.panic c) (a.put oi.dst v) w → Q (.panic c) a w) {K : Act → World → Prop} {a : Act} {w : World} (hy : YieldsC P ops C oi v a) (h : wpOp P ops Q j K (a.put oi.dst v) w) :
    wpOp P ops Q j (fun a' w' => YieldsC P ops C oi v a' ∧ K (a'.put oi.dst v) w') a w := by
  obtain ⟨h1, h2, h3⟩ := Oper.apart_spec hap
  have kp : ∀ u, YieldsC P ops C oi v (a.put oj.dst u) := fun u => hy.same (execOp_put oi hsi a oj.dst u h3) (wanted_put oi a oj.dst u h3)
  have kd : ∀ d u, YieldsC P ops C oi v (Act.put { a with defers := d :: a.defers } oj.dst u) := fun d u =>
    (hy.same (a' := { a with defers := d :: a.defers }) rfl rfl).same (execOp_put oi hsi _ oj.dst u h3) (wanted_put oi _ oj.dst u h3)
  have pc : ∀ (b : Act) (u : Value), (b.put oi.dst v).put oj.dst u = (b.put oj.dst u).put oi.dst v := fun b u => Act.put_comm b v u h2
  unfold wpOp at *
  simp only [hj] at *
  rw [wanted_put oj a oi.dst v h1] at h
  by_cases hw : Region.wanted oj (yielded ops a.tmps) = true
  · simp only [hw, if_true] at h ⊢
    rcases h with h | ⟨hasks, hlets⟩
    · left
      unfold Oper.wp at *
      rw [execOp_put oj hsj a oi.dst v h1] at h
      generalize (execOp a.eval oj).run P w = r at *
      cases r with
      | ok n w' =>
        cases n <;> simp only [Oper.upon] at h ⊢
        case value u => exact ⟨kp u, by rw [← pc]; exact h⟩
        case skip => exact ⟨kp _, by rw [← pc]; exact h⟩
        case defer d =>
          refine ⟨kd d _, ?_⟩
          rw [← pc, ← Act.put_defers]
          exact h
        case enter f args =>
          refine Calls.mono h fun e w'' he => ?_
          cases e with
          | returned u => exact ⟨kp u, by rw [← pc]; exact he⟩
          | panicked c => exact hQ _ _ _ he
          | outgrown => exact he
        case row row args => exact Rows.mono h fun u w'' he => ⟨kp u, by rw [← pc]; exact he⟩
      | halt x w' =>
        cases x <;> simp only [Oper.upon] at h ⊢
        case panic u => exact hQ _ _ _ h
    · exact .inr ⟨by unfold Oper.asks at *; rw [execOp_put oj hsj a oi.dst v h1] at hasks; exact hasks, hlets⟩
  · simp only [hw] at h ⊢
    exact ⟨kp _, by rw [← pc]; exact h⟩

/-- Whatever order is picked from here on, from every world of the class. -/
def wpAnyX (P : Program) (md : Region.Mode) (ops : Array Oper) (Q : Exit → Act → World → Prop) : Nat → Array Bool → (World → Prop) → Act → Prop
  | 0, listed, C, a => Region.ready md ops listed = [] ∧ ∀ w, C w → Q .normal a w
  | f + 1, listed, C, a => (Region.ready md ops listed = [] → ∀ w, C w → Q .normal a w) ∧
    ∀ i ∈ Region.ready md ops listed, ∀ w, C w → wpOp P ops Q i (fun a' w' => ∃ C' : World → Prop, Stable C' ∧ (∀ W, C' W → C W) ∧ C' w' ∧ wpAnyX P md ops Q f (listed.setIfInBounds i true) C' a') a w
theorem wpAnyX_sound : ∀ (f : Nat) (listed : Array Bool) (C : World → Prop) (a : Act) (w : World), C w → wpAnyX P md ops Q f listed C a → wpAny P md ops Q f listed a w
  | 0, _, _, _, w, hw, h => ⟨h.1, h.2 w hw⟩
  | f + 1, _, _, _, w, hw, h => ⟨fun h0 => h.1 h0 w hw, fun i hi => wpOp_mono (fun a' w' ⟨C', _, _, h3, h4⟩ => wpAnyX_sound f _ C' a' w' h3 h4) (h.2 i hi w hw)⟩
theorem wpAnyX_first {i : Nat} {oi : Oper} {v : Value} (hi : ops[i]? = some oi) (hsel : ∀ (j : Nat) (o : Oper) cs b, ops[j]? = some o → o.op ≠ .select cs b) (hQ : ∀ c a w, Q (.panic c) (a.put oi.dst v) w → Q (.panic c) a w) :
    ∀ (f : Nat) (listed : Array Bool) (C : World → Prop) (a : Act), Stable C →
      (∀ j oj, ops[j]? = some oj → j ≠ i → listed.getD j true = false → (∀ e ∈ oj.after, Region.binds md e = true → e.on ≠ i) → oi.apart ops oj = true) →
      i ∈ Region.ready md ops listed → YieldsC P ops C oi v a → wpAnyX P md ops Q f (listed.setIfInBounds i true) C (a.put oi.dst v) → wpAnyX P md ops Q (f + 1) listed C a
  | 0, listed, C, a, hst, hfree, hr, hy, H => by
    refine ⟨fun h => (by rw [h] at hr; cases hr), fun j hj w hw => ?_⟩
    by_cases hji : j = i
    · subst hji
      exact hy.wpOp hi hst hw fun w' hw' => ⟨C, hst, fun _ h => h, hw', H⟩
    · have := ready_mono hj hji
      rw [H.1] at this
      cases this
  | f + 1, listed, C, a, hst, hfree, hr, hy, H => by
    refine ⟨fun h => (by rw [h] at hr; cases hr), fun j hj w hw => ?_⟩
    by_cases hji : j = i
    · subst hji
      exact hy.wpOp hi hst hw fun w' hw' => ⟨C, hst, fun _ h => h, hw', H⟩
    · have h1 := H.2 j (ready_mono hj hji) w hw
      obtain ⟨hjun, oj, hoj, hall⟩ := mem_ready.1 hj
      have hnot : ∀ e ∈ oj.after, Region.binds md e = true → e.on ≠ i := fun e he hb heq => by
        have h2 := hall e he hb
        have h0 := (mem_ready.1 hr).1
        rw [heq] at h2
        rcases Nat.lt_or_ge i listed.size with h' | h'
        · simp [h'] at h0 h2; rw [h0] at h2; cases h2
        · simp [Array.getElem?_eq_none h'] at h2
      have h2 := wpOp_apart hoj (hfree j oj hoj hji hjun hnot) (fun cs b => hsel i oi cs b hi) (fun cs b => hsel j oj cs b hoj) hQ hy h1
      have hfree' : ∀ k ok, ops[k]? = some ok → k ≠ i → (listed.setIfInBounds j true).getD k true = false → (∀ e ∈ ok.after, Region.binds md e = true → e.on ≠ i) → oi.apart ops ok = true := fun k ok hk hki hun hno => by
        refine hfree k ok hk hki ?_ hno
        by_cases hjk : j = k
        · subst hjk; exact hjun
        · rw [getD_set_ne true hjk] at hun; exact hun
      refine wpOp_mono (fun a' w' h3 => ?_) h2
      obtain ⟨hy', C', k1, k2, k3, k4⟩ := h3
      refine ⟨C', k1, k2, k3, wpAnyX_first hi hsel hQ f (listed.setIfInBounds j true) C' a' k1 hfree' (ready_mono hr (Ne.symm hji)) (hy'.narrow k2) ?_⟩
      rw [Array.setIfInBounds_comm _ _ hji]
      exact k4

/-- The order that is written down: number, operation, calm or alone. -/
def wpOrd (P : Program) (ops : Array Oper) (Q : Exit → Act → World → Prop) : List (Oper × Bool) → (World → Prop) → Act → Prop
  | [], C, a => ∀ w, C w → Q .normal a w
  | (o, true) :: r, C, a => if Region.wanted o (yielded ops a.tmps) = true then ∃ v, (∀ w, C w → calmAt P o a w v) ∧ wpOrd P ops Q r C (a.put o.dst v) else wpOrd P ops Q r C (a.put o.dst undef)
  | (o, false) :: r, C, a => ∀ w, C w → if Region.wanted o (yielded ops a.tmps) = true then Oper.wp P o a w (fun a' w' => ∃ C' : World → Prop, Stable C' ∧ (∀ W, C' W → C W) ∧ C' w' ∧ wpOrd P ops Q r C' a') Q else wpOrd P ops Q r C (a.put o.dst undef)
def ordB (md : Region.Mode) (ops : Array Oper) : List (Nat × Bool) → Array Bool → Bool
  | [], listed => (Region.ready md ops listed).isEmpty
  | (i, true) :: r, listed => Region.free md ops listed i && (Region.ready md ops listed).contains i && ordB md ops r (listed.setIfInBounds i true)
  | (i, false) :: r, listed => (Region.ready md ops listed == [i]) && ordB md ops r (listed.setIfInBounds i true)
def pickOps (l : List Oper) : List (Nat × Bool) → List (Oper × Bool)
  | [] => []
  | (i, b) :: r => match l[i]? with | some o => (o, b) :: pickOps l r | none => []
theorem wpAnyX_ord {l : List Oper} (hs : Region.noSelect l.toArray = true) (hQ : ∀ c a d v w, Q (.panic c) (Act.put a d v) w → Q (.panic c) a w) : ∀ (s : List (Nat × Bool)) (listed : Array Bool) (C : World → Prop) (a : Act), Stable C → ordB md l.toArray s listed = true → wpOrd P l.toArray Q (pickOps l s) C a → wpAnyX P md l.toArray Q s.length listed C a
  | [], listed, C, a, hst, hB, h => ⟨by simpa [ordB] using hB, h⟩
  | (i, b) :: r, listed, C, a, hst, hB, h => by
    cases b with
    | true =>
      simp only [ordB, Bool.and_eq_true] at hB
      obtain ⟨⟨hf, hr⟩, hB'⟩ := hB
      have hr' : i ∈ Region.ready md l.toArray listed := by simpa using hr
      obtain ⟨_, o, ho, _⟩ := mem_ready.1 hr'
      have ho' : l[i]? = some o := by simpa using ho
      simp only [pickOps, ho', wpOrd] at h
      by_cases hw : Region.wanted o (yielded l.toArray a.tmps) = true
      · rw [if_pos hw] at h
        obtain ⟨v, h1, h2⟩ := h
        exact wpAnyX_first ho (Region.noSelect_spec hs) (fun c a w => hQ c a _ _ w) r.length listed C a hst (Region.free_spec ho hf) hr' (.inl ⟨hw, h1⟩) (wpAnyX_ord hs hQ r _ C _ hst hB' h2)
      · rw [if_neg hw] at h
        exact wpAnyX_first ho (Region.noSelect_spec hs) (fun c a w => hQ c a _ _ w) r.length listed C a hst (Region.free_spec ho hf) hr' (.inr ⟨by simpa using hw, rfl⟩) (wpAnyX_ord hs hQ r _ C _ hst hB' h)
    | false =>
      simp only [ordB, Bool.and_eq_true, beq_iff_eq] at hB
      obtain ⟨hr, hB'⟩ := hB
      have hr' : i ∈ Region.ready md l.toArray listed := by rw [hr]; simp
      obtain ⟨_, o, ho, _⟩ := mem_ready.1 hr'
      have ho' : l[i]? = some o := by simpa using ho
      simp only [pickOps, ho', wpOrd] at h
      refine ⟨fun h0 => (by rw [h0] at hr'; cases hr'), fun j hj w hw => ?_⟩
      rw [hr] at hj
      obtain rfl : j = i := by simpa using hj
      have hh := h w hw
      unfold wpOp
      simp only [ho]
      split
      · rename_i hwa
        rw [if_pos hwa] at hh
        exact .inl (Oper.wp_mono (fun a' w' ⟨C', k1, k2, k3, k4⟩ => ⟨C', k1, k2, k3, wpAnyX_ord hs hQ r _ C' a' k1 hB' k4⟩) hh)
      · rename_i hwa
        rw [if_neg hwa] at hh
        exact ⟨C, hst, fun _ h => h, hw, wpAnyX_ord hs hQ r _ C _ hst hB' hh⟩
/-- The walk that is left, shut: nothing unfolds it. -/
structure Ord (P : Program) (ops : Array Oper) (Q : Exit → Act → World → Prop) (l : List (Oper × Bool)) (C : World → Prop) (a : Act) : Prop where
  out : wpOrd P ops Q l C a
/-- A region in an order that is written down ('hB': by the kernel). -/
theorem wp_region_ord {id : Nat} {l : List Oper} {a : Act} {w : World} (s : List (Nat × Bool)) (C : World → Prop) (hst : Stable C) (hm : P.follows .mixedOrders = true)
    (hB : (Region.noSelect l.toArray && ((s.length == l.length) && ordB .any l.toArray s (Array.replicate l.length false))) = true) (hC : C w.drew) (h : Ord P l.toArray (NoPanic Q) (pickOps l s) C a) : (Code.region id l.toArray true).wp P Q a w := by
  refine wp_region_noPanic ?_
  simp only [Bool.and_eq_true, beq_iff_eq] at hB
  obtain ⟨h1, h2, h3⟩ := hB
  refine wp_region_any hm (wpAnyX_sound _ _ C a _ hC ?_)
  have := wpAnyX_ord (md := .any) (Q := NoPanic Q) h1 (fun _ _ _ _ _ h => h) s _ C a hst h3 h.out
  rw [h2] at this
  simpa using this
theorem ord_nil {C : World → Prop} {a : Act} (h : ∀ w, In C w → Q .normal a w) : Ord P ops (NoPanic Q) [] C a := ⟨fun w hw => h w ⟨hw⟩⟩
/-- One calm operation. -/
theorem ord_calm {C : World → Prop} {a : Act} {o : Oper} {r : List (Oper × Bool)} (h : ∀ K : Act → Prop, (∀ a, Ord P ops Q r C a → K a) → if Region.wanted o (yielded ops a.tmps) = true then ∃ v, (∀ w, In C w → calmAt P o a w v) ∧ K (a.put o.dst v) else K (a.put o.dst undef)) : Ord P ops Q ((o, true) :: r) C a := by
  have h1 := h _ fun _ h => h
  refine ⟨?_⟩
  unfold wpOrd
  split
  · rename_i hw
    rw [if_pos hw] at h1
    obtain ⟨v, h2, h3⟩ := h1
    exact ⟨v, fun w hw => h2 w ⟨hw⟩, h3.out⟩
  · rename_i hw
    rw [if_neg hw] at h1
    exact h1.out
/-- One that comes up alone. -/
theorem ord_alone {C : World → Prop} {a : Act} {o : Oper} {r : List (Oper × Bool)} (hwa : Region.wanted o (yielded ops a.tmps) = true)
    (h : ∀ (w : World), In C w → ∀ K : Act → World → Prop, Shut (∀ a' w' (C' : World → Prop), Stable C' → (∀ W, C' W → C W) → C' w' → Ord P ops Q r C' a' → K a' w') → if Region.wanted o (yielded ops a.tmps) = true then Oper.wp P o a w K Q else K (a.put o.dst undef) w) : Ord P ops Q ((o, false) :: r) C a := by
  refine ⟨fun w hw => ?_⟩
  rw [if_pos hwa]
  have := h w ⟨hw⟩ (fun a' w' => ∃ C' : World → Prop, Stable C' ∧ (∀ W, C' W → C W) ∧ C' w' ∧ wpOrd P ops Q r C' a') (fun a' w' C' k1 k2 k3 k4 => ⟨C', k1, k2, k3, k4.out⟩)
  rwa [if_pos hwa] at this
end
end Go.Proofs.Ytfmojgdomficlaa
set_option linter.unusedVariables false
set_option linter.unusedSimpArgs false
/-! Devices: place, listed, file, open. -/
namespace Go.Proofs.Ytfmojgdomficlaa
open Go.RowKit Go.Proofs.YtfmojgdomficlaaW.PrintWords

set_option maxRecDepth 100000 in
set_option maxHeartbeats 2000000 in
theorem seg_place (d : SDisk) (b : Nat) (Af Al : Option Addr) (cf cl : Nat) (no : Int) (w : World) (hd : DAt w b Af cf Al cl d) :
    Calls Try.prog 83 #[.pointer (some ⟨b, 0, none⟩), .int .i64 no] w fun e w' => e = .returned (.int .i64 (placeOf d.files no)) ∧ Below w.heap.size w w' := by
  obtain ⟨⟨hf, hl, hcf, hcl⟩, c0, c1⟩ := hd
  have hm : d.files.length ≤ 9223372036854775807 := hf.2.1
  have Hf := Lib.hid hf
  clear hf hl
  go_enter Try.func83, Try.ntmps83
  go_wp2
  go_loopw [13] (fun i wr => ∃ k : Nat, k ≤ d.files.length ∧ i = .int .i64 k ∧ Below w.heap.size w wr ∧ Hid (placeI no d.files 0 = placeI no (d.files.drop k) k)) (fun i _ => d.files.length - (intOf i).toNat)
  case atStart => exact ⟨0, Nat.zero_le _, rfl, Below.refl _ _, Lib.hid rfl⟩
  case round =>
    obtain ⟨k, hk, rfl, hB, Hp⟩ := hrel
    by_cases hlt : k < d.files.length
    · obtain ⟨f, ad, Ar, cr, hd, htk, hget, rfl, e0, e1, e2, hcr, hrr⟩ := sfile_at (Kd.C_below Hf.out hB) k hlt
      have hst := Lib.hid (placeI_step no d.files k f hget)
      clear hd htk hget hrr
      by_cases hno : f.no = no
      · go_wp2
        go_ret
        refine ⟨?_, (by repeat (first | exact Below.refl _ _ | assumption | apply below_alloc | apply below_drew1 | apply pw_below_drewN | refine below_step ?_ (by assumption)))⟩
        simp only [placeOf, Hp.out, hst.out, if_pos hno]
        rfl
      · go_wp2
        exact ⟨⟨k + 1, by omega, by go_num, (by repeat (first | exact Below.refl _ _ | assumption | apply below_alloc | apply below_drew1 | apply pw_below_drewN | refine below_step ?_ (by assumption))), Lib.hid (by rw [Hp.out, hst.out, if_neg hno])⟩, by simp [intOf]; omega⟩
    · have hkl : k = d.files.length := by omega
      have h1 : placeOf d.files no = -1 := by simp only [placeOf, Hp.out, hkl, List.drop_of_length_le (Nat.le_refl _)]; rfl
      go_wp2
      go_ret
      exact ⟨by rw [h1]; rfl, hB⟩
set_option maxRecDepth 100000 in
set_option maxHeartbeats 2000000 in
theorem seg_listed (d : SDisk) (b : Nat) (Af Al : Option Addr) (cf cl : Nat) (no : Int) (w : World) (hd : DAt w b Af cf Al cl d) :
    Calls Try.prog 61 #[.pointer (some ⟨b, 0, none⟩), .int .i64 no] w fun e w' => e = .returned (.bool (d.list.contains no)) ∧ Below w.heap.size w w' := by
  obtain ⟨⟨hf, hl, hcf, hcl⟩, c0, c1⟩ := hd
  have hm : d.list.length ≤ 9223372036854775807 := hl.2.1
  have Hl := Lib.hid hl
  clear hf hl
  go_enter Try.func61, Try.ntmps61
  go_wp2
  go_loopw [13] (fun i wr => ∃ k : Nat, k ≤ d.list.length ∧ i = .int .i64 k ∧ Below w.heap.size w wr ∧ Hid ((d.list.take k).contains no = false)) (fun i _ => d.list.length - (intOf i).toNat)
  case atStart => exact ⟨0, Nat.zero_le _, rfl, Below.refl _ _, Lib.hid rfl⟩
  case round =>
    obtain ⟨k, hk, rfl, hB, Hp⟩ := hrel
    by_cases hlt : k < d.list.length
    · obtain ⟨x, ad, hd, htk, hget, rfl, e0⟩ := int_at (Kd.C_below Hl.out hB) k hlt
      have Hg := Lib.hid hget
      have Htk := Lib.hid htk
      clear hd htk hget
      by_cases hno : x = no
      · go_wp2
        go_ret
        refine ⟨?_, (by repeat (first | exact Below.refl _ _ | assumption | apply below_alloc | apply below_drew1 | apply pw_below_drewN | refine below_step ?_ (by assumption)))⟩
        have : d.list.contains no = true := by rw [List.contains_iff_mem]; exact hno ▸ List.mem_of_getElem? Hg.out
        rw [this]; rfl
      · go_wp2
        exact ⟨⟨k + 1, by omega, by go_num, (by repeat (first | exact Below.refl _ _ | assumption | apply below_alloc | apply below_drew1 | apply pw_below_drewN | refine below_step ?_ (by assumption))), Lib.hid (by
          have h1 := Hp.out
          rw [Htk.out]
          simp only [List.contains_eq_mem, List.mem_append, decide_eq_false_iff_not, List.mem_singleton] at h1 ⊢
          rintro (h | h)
          · exact h1 h
          · exact hno h.symm)⟩, by simp [intOf]; omega⟩
    · have hkl : k = d.list.length := by omega
      have h1 : d.list.contains no = false := by have := Hp.out; rwa [hkl, List.take_length] at this
      go_wp2
      go_ret
      exact ⟨by rw [h1]; rfl, hB⟩
set_option maxRecDepth 100000 in
set_option maxHeartbeats 2000000 in
theorem seg_file (d : SDisk) (b : Nat) (ad : Addr) (Al : Option Addr) (cf cl : Nat) (no : Int) (i : Nat) (w : World) (hi : placeI no d.files 0 = some i) (hd : DAt w b (some ad) cf Al cl d) :
    Calls Try.prog 59 #[.pointer (some ⟨b, 0, none⟩), .int .i64 no] w fun e w' => e = .returned (.pointer (some (ad.add (i * 3)))) ∧ Below w.heap.size w w' := by
  have hil : i < d.files.length := by
    obtain ⟨_, f, h, _⟩ := placeI_spec no d.files 0 i hi
    exact (List.getElem?_eq_some_iff.1 h).1
  have hm : d.files.length ≤ 9223372036854775807 := hd.files.2.1
  have hcf := hd.capf
  have hpl : placeOf d.files no = (i : Int) := by simp only [placeOf, hi]
  have Hd := Lib.hid hd
  clear hd hi
  go_enter Try.func59, Try.ntmps59
  go_wp2
  refine wp_region_ord [(0, true), (1, true), (2, true), (3, true), (4, true), (5, true), (6, true), (7, true), (8, true), (9, true)] (fun W => Below w.heap.size w W) (fun _ _ h hb => below_step h hb) (by kernel_rfl) (by kernel_rfl) (below_drew1 (Below.refl _ _)) ?_
  simp only [pickOps, List.getElem?_cons_succ, List.getElem?_cons_zero]
  repeat (refine ord_calm (fun K hK => ?_); go_simp; first | (refine hK _ ?_; clear hK K) | (apply Exists.intro; refine ⟨fun W hC => ?_, hK _ ?_⟩; (first | rfl | (have c0 := (Hd.out.later hC.out).c0; go_simp; done) | (have c0 := (Hd.out.later hC.out).c0; go_simp; rfl) | ((with_reducible refine (seg_place d b _ _ cf cl no _ (Hd.out.later hC.out)).mono ?_); rintro e w' ⟨rfl, hb⟩; rw [hpl]; exact ⟨rfl, hb⟩)); clear hK K))
  refine ord_nil ?_
  intro W hC
  have HC := Lib.hid hC.out
  clear hC
  go_wp2
  go_ret
  exact ⟨rfl, HC.out⟩
end Go.Proofs.Ytfmojgdomficlaa
set_option linter.unusedVariables false
set_option linter.unusedSimpArgs false
/-! Devices: the open file, the list. -/
namespace Go.Proofs.Ytfmojgdomficlaa
open Go.RowKit Go.Proofs.YtfmojgdomficlaaW.PrintWords

theorem last_get (l : List Int) (h : l ≠ []) : l[l.length - 1]? = some (l.getLast?.getD 0) := by
  rw [List.getLast?_eq_getElem?]
  have : l.length - 1 < l.length := by have := List.length_pos_iff.2 h; omega
  rw [List.getElem?_eq_getElem this]; rfl
theorem int_cell {w : World} {A : Option Addr} {n : Nat} {l : List Int} (h : IntRow w A n l) (k : Nat) (x : Int) (hx : l[k]? = some x) (hn : n = l.length) : ∃ ad, A = some ad ∧ w.cell? (ad.add k) = some (.int .i64 x) := by
  have hk := (List.getElem?_eq_some_iff.1 hx).1
  obtain ⟨y, ad, _, _, h3, h4, h5⟩ := int_at h k (by omega)
  rw [hx] at h3
  cases h3
  exact ⟨ad, h4, h5⟩
set_option maxRecDepth 100000 in
set_option maxHeartbeats 2000000 in
theorem seg_open (d : SDisk) (b : Nat) (ad : Addr) (Al : Option Addr) (cf cl : Nat) (i : Nat) (w : World) (hne : d.list ≠ []) (hi : placeI (openNo d) d.files 0 = some i) (hd : DAt w b (some ad) cf Al cl d) :
    Calls Try.prog 85 #[.pointer (some ⟨b, 0, none⟩)] w fun e w' => e = .returned (.pointer (some (ad.add (i * 3)))) ∧ Below w.heap.size w w' := by
  have hg : d.list[d.list.length - 1]? = some (openNo d) := last_get d.list hne
  have hlp : 0 < d.list.length := List.length_pos_iff.2 hne
  have hm : d.list.length ≤ 9223372036854775807 := hd.list.2.1
  have hcl := hd.capl
  obtain ⟨al, rfl, _⟩ := int_cell hd.list _ _ hg rfl
  have Hg := Lib.hid hg
  have Hd := Lib.hid hd
  have hx : ∀ W, DAt W b (some ad) cf (some al) cl d → W.cell? (al.add (d.list.length - 1)) = some (.int .i64 (openNo d)) := fun W h => by
    obtain ⟨a2, e, hc⟩ := int_cell h.list _ _ Hg.out rfl
    cases e; exact hc
  generalize openNo d = no at *
  have Hi := Lib.hid hi
  obtain ⟨m, hml⟩ : ∃ m, d.list.length = m + 1 := ⟨d.list.length - 1, by omega⟩
  have hmlt : m < d.list.length := by omega
  have hm1 : d.list.length - 1 = m := by omega
  rw [hm1] at hx
  have Hx := Lib.hid hx
  have hwr : IntKind.i64.wrap ((d.list.length : Int) - 1) = (m : Int) := by rw [IntWalk.i64_in _ (by omega)]; omega
  clear hml
  clear hd hi hg hx
  go_enter Try.func85, Try.ntmps85
  go_wp2
  refine wp_region_ord [(0, true), (1, true), (2, true), (3, true), (4, true), (5, true), (6, true), (7, true), (8, true), (9, true), (10, true), (11, true), (12, true), (13, true), (14, true), (15, true), (16, true)] (fun W => Below w.heap.size w W) (fun _ _ h hb => below_step h hb) (by kernel_rfl) (by kernel_rfl) (below_drew1 (Below.refl _ _)) ?_
  simp only [pickOps, List.getElem?_cons_succ, List.getElem?_cons_zero]
  repeat (refine ord_calm (fun K hK => ?_); go_simp; (try simp only [hwr]); first | (refine hK _ ?_; clear hK K) | (apply Exists.intro; refine ⟨fun W hC => ?_, hK _ ?_⟩; (first | rfl | (have c0 := (Hd.out.later hC.out).c1; have c1 := Hx.out W (Hd.out.later hC.out); go_simp; done) | (have c0 := (Hd.out.later hC.out).c1; have c1 := Hx.out W (Hd.out.later hC.out); go_simp; rfl) | ((with_reducible refine (seg_file d b ad _ cf cl no i _ Hi.out (Hd.out.later hC.out)).mono ?_); rintro e w' ⟨rfl, hb⟩; exact ⟨rfl, hb⟩)); clear hK K))
  refine ord_nil ?_
  intro W hC
  have HC := Lib.hid hC.out
  clear hC
  go_wp2
  go_ret
  exact ⟨rfl, HC.out⟩
end Go.Proofs.Ytfmojgdomficlaa
set_option linter.unusedVariables false
set_option linter.unusedSimpArgs false
/-! Devices: is the list formed. -/
namespace Go.Proofs.Ytfmojgdomficlaa
open Go.RowKit Go.Proofs.YtfmojgdomficlaaW.PrintWords

theorem listedFrom_cons (fs : List SFile) (pre l : List Int) (no : Int) : listedFrom fs pre (no :: l) = ((placeI no fs 0).isSome && (!pre.contains no && listedFrom fs (pre ++ [no]) l)) := rfl
theorem placeOf_neg (fs : List SFile) (no : Int) : decide (placeOf fs no < 0) = !(placeI no fs 0).isSome := by
  unfold placeOf
  cases placeI no fs 0 <;> simp
set_option maxRecDepth 100000 in
set_option maxHeartbeats 4000000 in
theorem seg_list (d : SDisk) (b : Nat) (Af Al : Option Addr) (cf cl : Nat) (w : World) (hd : DAt w b Af cf Al cl d) :
    Calls Try.prog 62 #[.pointer (some ⟨b, 0, none⟩)] w fun e w' => e = .returned (.bool (listB d)) ∧ Below w.heap.size w w' := by
  have c1 := hd.c1
  have hcl := hd.capl
  have hm : d.list.length ≤ 9223372036854775807 := hd.list.2.1
  have Hd := Lib.hid hd
  clear hd
  by_cases he : d.list = []
  · have hl0 : d.list.length = 0 := by rw [he]; rfl
    have H0 := Lib.hid he
    have hlb : listB d = false := by simp [listB, he]
    clear he
    go_enter Try.func62, Try.ntmps62
    go_wp2
    go_ret
    exact ⟨by rw [hlb]; rfl, (by repeat (first | exact Below.refl _ _ | assumption | apply below_alloc | apply below_drew1 | apply pw_below_drewN | refine below_step ?_ (by assumption)))⟩
  by_cases h8 : d.list.length ≤ 8
  · have hpos : 0 < d.list.length := List.length_pos_iff.2 he
    have hz : ((d.list.length : Int) == 0) = false := by simp; omega
    have h8b : decide ((8 : Int) < d.list.length) = false := by simp; omega
    have hlb : listB d = listedFrom d.files [] d.list := by
      have h1 : d.list.isEmpty = false := by simpa using he
      simp [listB, h1, h8]
    have Hlb := Lib.hid hlb
    clear hlb he
    go_enter Try.func62, Try.ntmps62
    go_wp2
    go_loopw [29] (fun i wr => ∃ k : Nat, k ≤ d.list.length ∧ i = .int .i64 k ∧ Below w.heap.size w wr ∧ Hid (listedFrom d.files [] d.list = listedFrom d.files (d.list.take k) (d.list.drop k))) (fun i _ => d.list.length - (intOf i).toNat)
    case atStart => exact ⟨0, Nat.zero_le _, rfl, Below.refl _ _, Lib.hid rfl⟩
    case round =>
      obtain ⟨k, hk, rfl, hB, Hp⟩ := hrel
      by_cases hlt : k < d.list.length
      · obtain ⟨no, ad, hd, htk, hget, rfl, e0⟩ := int_at (Kd.C_below Hd.out.list hB) k hlt
        have hst := Lib.hid (show listedFrom d.files (d.list.take k) (d.list.drop k) = ((placeI no d.files 0).isSome && (!(d.list.take k).contains no && listedFrom d.files (d.list.take (k + 1)) (d.list.drop (k + 1)))) by rw [hd, htk]; rfl)
        have hpn := placeOf_neg d.files no
        have hkc : k ≤ cl := by omega
        clear hd htk hget
        cases hpi : (placeI no d.files 0).isSome
        · rw [hpi] at hpn
          go_wp2_with (first | (go_at_call 83; refine (seg_place d b _ _ cf cl no _ (Hd.out.later (by repeat (first | exact Below.refl _ _ | assumption | apply below_alloc | apply below_drew1)))).mono ?_; rintro e w' ⟨rfl, hb⟩))
          go_ret
          exact ⟨by rw [Hlb.out, Hp.out, hst.out, hpi]; rfl, below_step hB hb⟩
        · rw [hpi] at hpn
          have hpn' : ¬ (placeOf d.files no < 0) := by simpa using hpn
          go_wp2_with (first | (go_at_call 83; refine (seg_place d b _ _ cf cl no _ (Hd.out.later (by repeat (first | exact Below.refl _ _ | assumption | apply below_alloc | apply below_drew1)))).mono ?_; rintro e w2 ⟨rfl, hb⟩; have hB2 := below_step hB hb; have c2 := (Hd.out.later hB2).c1))
          clear e0 hB
          go_loopw [46] (fun i wr => ∃ j : Nat, j ≤ k ∧ i = .int .i64 j ∧ Below w2.heap.size w2 wr ∧ Hid ((d.list.take j).contains no = false)) (fun i _ => k - (intOf i).toNat)
          case atStart => exact ⟨0, Nat.zero_le _, rfl, Below.refl _ _, Lib.hid rfl⟩
          case round =>
            obtain ⟨j, hj, rfl, hB3, Hq⟩ := hrel
            by_cases hjk : j < k
            · obtain ⟨x, ad', hd, htk, hget, e', e0⟩ := int_at (Kd.C_below Hd.out.list (below_step hB2 hB3)) j (by omega)
              cases e'
              have Hg := Lib.hid hget
              have Htk := Lib.hid htk
              clear hd htk hget
              by_cases hno : x = no
              · go_wp2
                go_ret
                have hmem : (d.list.take k).contains no = true := by
                  rw [List.contains_iff_mem, ← hno]
                  exact List.mem_iff_getElem?.2 ⟨j, by rw [List.getElem?_take_of_lt hjk]; exact Hg.out⟩
                exact ⟨by rw [Hlb.out, Hp.out, hst.out, hpi, hmem]; rfl, below_step hB2 (by repeat (first | exact Below.refl _ _ | assumption | apply below_alloc | apply below_drew1))⟩
              · go_wp2
                exact ⟨⟨j + 1, by omega, by go_num, by repeat (first | exact Below.refl _ _ | assumption | apply below_alloc | apply below_drew1), Lib.hid (by
                  have h1 := Hq.out
                  rw [Htk.out]
                  simp only [List.contains_eq_mem, List.mem_append, decide_eq_false_iff_not, List.mem_singleton] at h1 ⊢
                  rintro (h | h)
                  · exact h1 h
                  · exact hno h.symm)⟩, by simp [intOf]; omega⟩
            · have hjk' : j = k := by omega
              have h1 := Hq.out
              rw [hjk'] at h1
              have H1 := Lib.hid h1
              clear h1 hjk'
              go_wp2
              exact ⟨⟨k + 1, by omega, by go_num, below_step hB2 hB3, Lib.hid (by rw [Hp.out, hst.out, hpi, H1.out]; rfl)⟩, by simp [intOf]; omega⟩
      · have hkl : k = d.list.length := by omega
        have h1 : listedFrom d.files [] d.list = true := by rw [Hp.out, hkl, List.drop_of_length_le (Nat.le_refl _)]; rfl
        have H1 := Lib.hid h1
        clear h1 hkl
        go_wp2
        go_ret
        exact ⟨by rw [Hlb.out, H1.out]; rfl, hB⟩
  · have hlb : listB d = false := by simp [listB, h8]
    have hz : ((d.list.length : Int) == 0) = false := by simp; omega
    have h8b : decide ((8 : Int) < d.list.length) = true := by simp; omega
    go_enter Try.func62, Try.ntmps62
    go_wp2
    go_ret
    exact ⟨by rw [hlb]; rfl, (by repeat (first | exact Below.refl _ _ | assumption | apply below_alloc | apply below_drew1 | apply pw_below_drewN | refine below_step ?_ (by assumption)))⟩
end Go.Proofs.Ytfmojgdomficlaa
set_option linter.unusedVariables false
set_option linter.unusedSimpArgs false
/-! The iterator over the right records of a file. -/
namespace Go.Proofs.Ytfmojgdomficlaa
open Go.RowKit Go.Shelf Go.Proofs.YtfmojgdomficlaaW.PrintWords
attribute [local go_sem] Oper.semAt_some
theorem goodOf_snoc (rs : List SRec) (k : Nat) (r : SRec) (hg : rs[k]? = some r) (hr : rightB r = true) (h : goodOf rs = rs.take k ++ goodOf (rs.drop k)) : goodOf rs = rs.take (k + 1) ++ goodOf (rs.drop (k + 1)) := by
  obtain ⟨hk, rfl⟩ := List.getElem?_eq_some_iff.1 hg
  rw [h, List.drop_eq_getElem_cons hk, goodOf, List.takeWhile_cons_of_pos hr, List.take_succ_eq_append_getElem hk, List.append_assoc]
  rfl
theorem goodOf_stop (rs : List SRec) (k : Nat) (r : SRec) (hg : rs[k]? = some r) (hr : rightB r = false) (h : goodOf rs = rs.take k ++ goodOf (rs.drop k)) : goodOf rs = rs.take k := by
  obtain ⟨hk, rfl⟩ := List.getElem?_eq_some_iff.1 hg
  rw [h, List.drop_eq_getElem_cons hk, goodOf, List.takeWhile_cons_of_neg (by simp [hr]), List.append_nil]
set_option maxRecDepth 100000 in
set_option maxHeartbeats 4000000 in
theorem right1_in (n l fb : Nat) (no safe : Int) (A : Option Addr) (c : Nat) (rs : List SRec) (w0 : World) (hrow : RecRow w0 A rs.length rs) (hlc : rs.length ≤ c) (J Jx : List SRec → World → Prop)
    (W : World) (hW : Below w0.heap.size w0 W) (hJ : AbidesFrom W.heap.size J)
    (hY : ∀ pre x W1, J pre W1 → pre.length < (goodOf rs).length → YieldAt Fence.wide (n - 1) Try.prog l #[.agg #[.int .i64 x.news.do_, .int .i64 x.news.src, .int .i64 x.news.id, .int .i64 x.news.ver, .int .i64 x.news.body.at_, .int .i64 x.news.body.key, .int .i64 x.news.body.val, .int .i64 x.sum]] W1 fun e W' =>
      (e = .returned (.bool true) ∧ J (pre ++ [x]) W' ∧ Below w0.heap.size W1 W') ∨ (e = .returned (.bool false) ∧ Jx (pre ++ [x]) W'))
    (c1 : W.cell? ⟨fb, 1, none⟩ = some (.slice A rs.length c)) (h0 : J [] W) :
    CallsIn Fence.wide n Try.prog 82 #[.func (.yield l) #[] #[], .pointer (some ⟨fb, 0, none⟩)] W fun e W' => (∃ v, e = .returned v) ∧
      ((∃ ys, ys = goodOf rs ∧ J ys W') ∨ (∃ pre, pre <+: goodOf rs ∧ Jx pre W')) := by
  have hm : rs.length ≤ 9223372036854775807 := hrow.2.1
  have HR := Lib.hid hrow
  have HY := Lib.hid hY
  clear hrow hY
  refine callsIn_of_wp Try.func82 rfl trivial ?_ rfl
  simp only [Try.ntmps82, List.size_toArray, List.length_cons, List.length_nil, Nat.reduceAdd, Nat.reduceSub, Array.replicate_succ, Array.replicate_zero, List.push_toArray, List.append_toArray, List.nil_append, List.cons_append]
  gi_wp2
  gi_loopw [8] (fun i wr => ∃ k : Nat, k ≤ rs.length ∧ i = .int .i64 k ∧ J (rs.take k) wr ∧ Below w0.heap.size w0 wr ∧ W.heap.size ≤ wr.heap.size ∧ Hid (goodOf rs = rs.take k ++ goodOf (rs.drop k))) (fun i _ => rs.length - (intOf i).toNat)
  case atStart => exact ⟨0, Nat.zero_le _, rfl, h0, hW, Nat.le_refl _, Lib.hid (by simp)⟩
  case round =>
    obtain ⟨k, hk, rfl, hJs, hB, hsz, Hg⟩ := hrel
    by_cases hlt : k < rs.length
    · obtain ⟨r, ad, hd, htk, hget, rfl, e0, e1, e2, e3, e4, e5, e6, e7⟩ := srec_at (Kd.C_below HR.out hB) k hlt
      have Hget := Lib.hid hget
      have Htk := Lib.hid htk
      clear hd hget htk
      have hmx : Try.prog.follows .mixedOrders = true := by kernel_rfl
      by_cases hs : r.sum = segSum r.news
      · have hne : (r.sum != segSum r.news) = false := by simp [hs]
        have hrg : rightB r = true := by simp [rightB, hs]
        have Hrg := Lib.hid hrg
        have Hs := Lib.hid hs
        clear hrg hs
        gi_wp2
        gi_region_with_o (first
          | (gi_at_call 11; refine (callsIn_wide.2 (seg_Sum r.news _)).mono ?_; rintro e w2 ⟨rfl, hb2⟩; obtain ⟨hc2, hf2⟩ := bcell hb2; obtain ⟨fn, tmps, asg, body, hy, hR⟩ := HY.out (rs.take k) r w2 (abides_below hJ hJs (below_step (by repeat (first | exact Below.refl _ _ | assumption | apply below_alloc | apply below_drew1)) hb2)) (by have := congrArg List.length (goodOf_snoc rs k r Hget.out Hrg.out Hg.out); rw [List.length_append, List.length_take] at this; rw [List.length_take]; omega))
          | (refine hR.mono ?_; rintro e W3 hh3; obtain ⟨b, rfl, h3⟩ : ∃ b, e = .returned (.bool b) ∧ Hid ((b = true ∧ J (rs.take k ++ [r]) W3 ∧ Below w0.heap.size w2 W3) ∨ (b = false ∧ Jx (rs.take k ++ [r]) W3)) := (by rcases hh3 with ⟨rfl, h1, h2⟩ | ⟨rfl, h1⟩; exact ⟨true, rfl, Lib.hid (.inl ⟨rfl, h1, h2⟩)⟩; exact ⟨false, rfl, Lib.hid (.inr ⟨rfl, h1⟩)⟩); clear hh3))
        all_goals
          rcases h3.out with ⟨rfl, hJ3, hk3⟩ | ⟨rfl, hJx3⟩
          · gi_wp2
            exact ⟨⟨k + 1, by omega, by go_num, by rw [Htk.out]; exact hJ3, (below_base hB (below_step (by repeat (first | exact Below.refl _ _ | assumption | apply below_alloc | apply below_drew1)) hb2) hB.size).trans hk3, by have := hk3.size; have := hb2.size; simp at this; omega, Lib.hid (goodOf_snoc rs k r Hget.out Hrg.out Hg.out)⟩, by simp [intOf]; omega⟩
          · gi_wp2
            refine bodyPost_ret (results_none rfl _ _ _) rfl ?_
            exact ⟨⟨_, rfl⟩, .inr ⟨_, by rw [goodOf_snoc rs k r Hget.out Hrg.out Hg.out, Htk.out]; exact List.prefix_append _ _, hJx3⟩⟩
      · have hne : (r.sum != segSum r.news) = true := by simp [hs]
        have Hst := Lib.hid (goodOf_stop rs k r Hget.out (by simp [rightB, hs]) Hg.out)
        clear hs
        refine wpIn_wide.2 ?_
        go_wp2
        refine wp_region_ord [(0, true), (1, true), (2, true), (3, true), (4, true), (5, true), (6, true), (7, true), (8, true), (9, true), (10, true), (11, true)] (fun X => Below (wr.heap.size + 1) (wr.alloc (.cells #[.int .i64 r.news.do_, .int .i64 r.news.src, .int .i64 r.news.id, .int .i64 r.news.ver, .int .i64 r.news.body.at_, .int .i64 r.news.body.key, .int .i64 r.news.body.val, .int .i64 r.sum] 83)) X) (fun _ _ h hb => h.trans (hb.mono (by have := h.size; simp at this; omega))) (by kernel_rfl) (by kernel_rfl) (below_drew1 (Below.refl _ _)) ?_
        simp only [pickOps, List.getElem?_cons_succ, List.getElem?_cons_zero]
        repeat (refine ord_calm (fun K hK => ?_); go_simp; first | (refine hK _ ?_; clear hK K) | (apply Exists.intro; refine ⟨fun X hC => ?_, hK _ ?_⟩; (first | rfl | (obtain ⟨hc2, hf2⟩ := bcell (W := wr.alloc (.cells #[.int .i64 r.news.do_, .int .i64 r.news.src, .int .i64 r.news.id, .int .i64 r.news.ver, .int .i64 r.news.body.at_, .int .i64 r.news.body.key, .int .i64 r.news.body.val, .int .i64 r.sum] 83)) (by have := hC.out; simpa using this); go_simp; done) | (obtain ⟨hc2, hf2⟩ := bcell (W := wr.alloc (.cells #[.int .i64 r.news.do_, .int .i64 r.news.src, .int .i64 r.news.id, .int .i64 r.news.ver, .int .i64 r.news.body.at_, .int .i64 r.news.body.key, .int .i64 r.news.body.val, .int .i64 r.sum] 83)) (by have := hC.out; simpa using this); go_simp; rfl) | ((with_reducible refine (seg_Sum r.news _).mono ?_); rintro e w' ⟨rfl, hb⟩; exact ⟨rfl, hb⟩)); clear hK K))
        refine ord_nil ?_
        intro X hC
        have HC := Lib.hid hC.out
        clear hC
        go_wp2
        refine bodyPost_ret (results_none rfl _ _ _) rfl ?_
        exact ⟨⟨_, rfl⟩, .inl ⟨_, Hst.out.symm, abides_below hJ hJs ((below_alloc (Below.refl _ _) _).trans (HC.out.mono (by omega)))⟩⟩
    · have hkl : k = rs.length := by omega
      have Hend := Lib.hid (show goodOf rs = rs.take k by rw [Hg.out, hkl, List.drop_of_length_le (Nat.le_refl _)]; simp [goodOf])
      clear hkl
      gi_wp2
      go_end0
      exact ⟨⟨_, rfl⟩, .inl ⟨_, Hend.out.symm, hJs⟩⟩
/-- .. as the caller's law takes it. -/
theorem right_stops (n fb : Nat) (A : Option Addr) (c : Nat) (rs : List SRec) (w0 w1 : World) (hrow : RecRow w0 A rs.length rs) (hlc : rs.length ≤ c) (hb : Below w0.heap.size w0 w1) (c1 : w1.cell? ⟨fb, 1, none⟩ = some (.slice A rs.length c)) :
    SeqStopsK Fence.wide n Try.prog 82 #[.pointer (some ⟨fb, 0, none⟩)] (fun r : SRec => #[.agg #[.int .i64 r.news.do_, .int .i64 r.news.src, .int .i64 r.news.id, .int .i64 r.news.ver, .int .i64 r.news.body.at_, .int .i64 r.news.body.key, .int .i64 r.news.body.val, .int .i64 r.sum]]) (Below w0.heap.size) (fun l => l = goodOf rs) (fun l => l <+: goodOf rs) (goodOf rs).length w1 :=
  fun l J Jx W hW hJ _ hY h0 => right1_in n l fb 0 0 A c rs w0 hrow hlc J Jx W (below_base hb hW hb.size) hJ hY (cell_later' hW c1) h0
set_option maxRecDepth 100000 in
theorem seg_right (no safe : Int) (A : Option Addr) (m c : Nat) (w : World) :
    Calls Try.prog 58 #[.agg #[.int .i64 no, .slice A m c, .int .i64 safe]] w fun e w' => e = .returned (.func (.func 82) #[] #[.pointer (some ⟨w.heap.size, 0, none⟩)]) ∧ w' = w.alloc (.cells #[.int .i64 no, .slice A m c, .int .i64 safe] 62) := by
  go_enter Try.func58, Try.ntmps58
  go_wp2
  go_ret
  exact ⟨rfl, rfl⟩
end Go.Proofs.Ytfmojgdomficlaa
set_option linter.unusedVariables false
set_option linter.unusedSimpArgs false
/-! What is there. -/
namespace Go.Proofs.Ytfmojgdomficlaa
open Go.RowKit Go.Shelf Go.Proofs.YtfmojgdomficlaaW.PrintWords
attribute [local go_sem] Oper.semAt_some

/-- What is there, of some of the files. -/
def thereFrom (fs : List SFile) (l : List Int) : List News := l.flatMap fun no => (goodOf (fileOf fs no).recs).map (·.news)
set_option maxRecDepth 100000 in
set_option maxHeartbeats 4000000 in
theorem seg_there (d : SDisk) (b : Nat) (Af Al : Option Addr) (cf cl : Nat) (w : World) (hd : DAt w b Af cf Al cl d) (hp : ∀ no ∈ d.list, (placeI no d.files 0).isSome = true) (hN : ((thereOf d).length + 1) * 56 ≤ 140737488355328) :
    Calls Try.prog 42 #[.pointer (some ⟨b, 0, none⟩)] w fun e w' => ∃ v, e = .returned v ∧ Own kNews 26 w' w.heap.size v (thereOf d) ∧ Below w.heap.size w w' := by
  have c1 := hd.c1
  have hcl := hd.capl
  have hm : d.list.length ≤ 9223372036854775807 := hd.list.2.1
  have Hd := Lib.hid hd
  have Hp := Lib.hid hp
  clear hd hp
  have hbw := World.block_lt_of_cell? w _ c1
  have hne := World.new_ne w _ c1
  refine (callsIn_wide (n := 3)).1 ?_
  refine callsIn_of_wp_marks Try.func42 rfl trivial ?_ rfl
  refine wpIn_wide.2 ?_
  simp only [Try.ntmps42, List.size_toArray, List.length_cons, List.length_nil, Nat.reduceAdd, Nat.reduceSub, Array.replicate_succ, Array.replicate_zero, List.push_toArray, List.append_toArray, List.nil_append, List.cons_append]
  go_wp2
  refine wp_loop (fun a wr => ∃ (k : Nat) (u5 u14 u15 u16 u17 u18 u19 u20 u21 u22 u29 : Value) (Ds : List Nat) (v : Value), a = { tmps := #[.pointer (some ⟨b, 0, none⟩), undef, .slice none 0 0, .pointer (some ⟨w.heap.size, 0, none⟩), undef, u5, undef, .pointer (some ⟨b, 0, none⟩), .pointer (some ⟨b, 0, none⟩), .pointer (some ⟨b, 0, none⟩), .pointer (some ⟨b, 1, none⟩), .slice Al d.list.length cl, .int .i64 d.list.length, .int .i64 k, u14, u15, u16, u17, u18, u19, u20, u21, u22, undef, undef, undef, undef, undef, undef, u29, undef], defers := markDefers Ds } ∧ k ≤ d.list.length ∧ Cells wr w.heap.size #[v] 34 ∧ Own kNews 26 wr (w.heap.size + 1) v (thereFrom d.files (d.list.take k)) ∧ Below w.heap.size w wr ∧ Marks (w.heap.size + 1) wr Ds ∧ w.heap.size + 1 ≤ wr.heap.size) (fun a _ => d.list.length - (intOf (a.tmps.getD 13 undef)).toNat) ?_ ?_
  · exact ⟨0, undef, undef, undef, undef, undef, undef, undef, undef, undef, undef, undef, [], _, rfl, Nat.zero_le _, Cells.new _ _ _, Kd.R_nil _ _ _ _ _, (Below.refl _ _).alloc (Nat.le_refl _) _, Marks.none _ _, by simp⟩
  · rintro a wr ⟨k, u5, u14, u15, u16, u17, u18, u19, u20, u21, u22, u29, Ds, v, rfl, hk, hbx, hown, hB, hmk, hsz⟩
    have hvc := hbx.cell 0 v rfl
    by_cases hlt : k < d.list.length
    · obtain ⟨no, al, hd1, htk, hget, rfl, e0⟩ := int_at (Kd.C_below Hd.out.list hB) k hlt
      have hmem : no ∈ d.list := List.mem_of_getElem? hget
      obtain ⟨i, hi⟩ := Option.isSome_iff_exists.1 (Hp.out no hmem)
      have Htk := Lib.hid htk
      clear hd1 hget htk
      obtain ⟨-, f, hf1, -, hf2⟩ := placeI_spec no d.files 0 i hi
      have hil : i < d.files.length := (List.getElem?_eq_some_iff.1 hf1).1
      obtain ⟨f', ad, Ar, cr, -, -, hget, rfl, p0, p1, p2, hcr, hrr⟩ := sfile_at Hd.out.files i hil
      obtain rfl : f = f' := by rw [Nat.sub_zero] at hf1; rw [hf1] at hget; exact Option.some.inj hget
      have hfo : fileOf d.files no = f := by rw [fileOf, hf2]; rfl
      have hth : thereFrom d.files (d.list.take (k + 1)) = thereFrom d.files (d.list.take k) ++ (goodOf f.recs).map (·.news) := by
        rw [Htk.out]; simp [thereFrom, hfo]
      have hln : (thereFrom d.files (d.list.take (k + 1))).length ≤ (thereOf d).length := by
        have : thereOf d = thereFrom d.files (d.list.take (k + 1)) ++ thereFrom d.files (d.list.drop (k + 1)) := by
          rw [thereFrom, thereFrom, ← List.flatMap_append, List.take_append_drop]; rfl
        rw [this, List.length_append]; omega
      have Hth := Lib.hid hth
      have Hi := Lib.hid hi
      have Hrr := Lib.hid hrr
      clear hi hf1 hf2 hget hfo hth hrr
      have P0 := Lib.hid p0
      have P1 := Lib.hid p1
      have P2 := Lib.hid p2
      clear p0 p1 p2
      go_wp2_with (first
        | (go_at_call 59; refine (seg_file d b ad _ cf cl no i _ Hi.out (Hd.out.later hB)).mono ?_; rintro e w2 ⟨rfl, hb2⟩; have hB2 := below_step hB hb2; have q0 := cell_keep hB2 P0.out; have q1 := cell_keep hB2 P1.out; have q2 := cell_keep hB2 P2.out)
        | (go_at_call 58; refine (seg_right _ _ _ _ _ _).mono ?_; rintro e w3 ⟨rfl, rfl⟩))
      have hb3 : Below wr.heap.size wr (w2.alloc (.cells #[.int .i64 f.no, .slice Ar f.recs.length cr, .int .i64 f.safe] 62)) := below_alloc hb2 _
      have hc3 : (w2.alloc (.cells #[.int .i64 f.no, .slice Ar f.recs.length cr, .int .i64 f.safe] 62)).cell? ⟨w2.heap.size, 1, none⟩ = some (.slice Ar f.recs.length cr) := (Cells.new w2 _ _).cell 1 _ rfl
      generalize w2.alloc (.cells #[.int .i64 f.no, .slice Ar f.recs.length cr, .int .i64 f.safe] 62) = w3 at hb3 hc3 ⊢
      have hB3 := below_step hB hb3
      have hs3 : w.heap.size + 1 ≤ w3.heap.size := Nat.le_trans hsz hb3.size
      refine (wpIn_wide (n := 3)).1 ?_
      refine wpIn_rangeFunc_ownH rfl (by omega) (gf := 82) (lb := #[.pointer (some ⟨w2.heap.size, 0, none⟩)]) rfl trivial (enters_of Try.func82 (by kernel_rfl) rfl)
        (right_stops 2 w2.heap.size Ar cr f.recs w w3 Hrr.out hcr hB3 hc3) belowK_t (belowK_b (by omega)) (Below.refl _ _) (fun _ => rfl)
        (fun pre W => ∃ v, Cells W w.heap.size #[v] 34 ∧ Own kNews 26 W (w.heap.size + 1) v (thereFrom d.files (d.list.take k) ++ pre.map (·.news)) ∧ Below w.heap.size w W ∧ Marks (w.heap.size + 1) W Ds ∧ w3.heap.size ≤ W.heap.size)
        (fun _ _ _ => False)
        (fun s W W' row ⟨v, h1, h2, h3, h4, h5⟩ hg hr => ⟨v, h1.turned hg (fun r e => (hr r e).2), R_turned h2 hg (fun r e => (hr r e).2), h3.grown hg (by omega) (fun r e => by have := (hr r e).1; omega), h4.turned (B := w3.heap.size) (fun D hD => Nat.lt_of_lt_of_le (hmk.lt D hD) hb3.size) hg (fun r e => (hr r e).1), Nat.le_trans h5 hg.size⟩)
        (fun _ _ _ _ _ hs _ _ => hs)
        ⟨v, hbx.later hb3, by simpa using Kd.R_below hown hb3, hB3, hmk.below hb3, Nat.le_refl _⟩
        (fun x a' W => ∃ Bx, w.heap.size < Bx ∧ Cells W Bx #[.int .i64 x.news.do_, .int .i64 x.news.src, .int .i64 x.news.id, .int .i64 x.news.ver, .int .i64 x.news.body.at_, .int .i64 x.news.body.key, .int .i64 x.news.body.val, .int .i64 x.sum] 83 ∧ a' = { tmps := #[.pointer (some ⟨b, 0, none⟩), undef, .slice none 0 0, .pointer (some ⟨w.heap.size, 0, none⟩), undef, .int .i64 no, .pointer (some ⟨Bx, 0, none⟩), .pointer (some ⟨b, 0, none⟩), .pointer (some ⟨b, 0, none⟩), .pointer (some ⟨b, 0, none⟩), .pointer (some ⟨b, 1, none⟩), .slice (some al) d.list.length cl, .int .i64 d.list.length, .int .i64 k, .bool true, .pointer (some (al.add k)), .int .i64 no, .pointer (some ⟨b, 0, none⟩), .int .i64 no, .pointer (some (ad.add (i * 3))), .pointer (some (ad.add (i * 3))), .agg #[.int .i64 f.no, .slice Ar f.recs.length cr, .int .i64 f.safe], .func (.func 82) #[] #[.pointer (some ⟨w2.heap.size, 0, none⟩)], .agg #[.int .i64 x.news.do_, .int .i64 x.news.src, .int .i64 x.news.id, .int .i64 x.news.ver, .int .i64 x.news.body.at_, .int .i64 x.news.body.key, .int .i64 x.news.body.val, .int .i64 x.sum], undef, undef, undef, undef, undef, u29, undef], defers := [] })
        (fun x a' s W W' row ⟨Bx, h1, h2, h3⟩ hg hr => ⟨Bx, h1, h2.turned hg (fun r e => (hr r e).2), h3⟩)
        ?assign ?body ?done ?stop
      case assign =>
        rintro l pre x W K ⟨v, h1, h2, h3, h4, h5⟩ hK
        gi_wp2
        exact hK _ _ ((KeepsOthers.alloc _ _).from _) ((Below.refl _ W).alloc h3.size _) ⟨v, h1.later ((Below.refl _ W).alloc (Nat.le_refl _) _), Kd.R_below h2 ((Below.refl _ W).alloc (Nat.le_refl _) _), h3.alloc h3.size _, h4.below ((Below.refl _ W).alloc (Nat.le_refl _) _), by simp; omega⟩ ⟨W.heap.size, by omega, Cells.new _ _ _, rfl⟩
      case body =>
        rintro l pre x a' W hl - ⟨v, h1, h2, h3, h4, h5⟩ ⟨Bx, hBx, h6, rfl⟩ hpl
        have k0 := h6.cell 0 _ rfl
        have k1 := h6.cell 1 _ rfl
        have k2 := h6.cell 2 _ rfl
        have k3 := h6.cell 3 _ rfl
        have k4 := h6.cell 4 _ rfl
        have k5 := h6.cell 5 _ rfl
        have k6 := h6.cell 6 _ rfl
        have kv := h1.cell 0 _ rfl
        have kf := h1.frozen 0
        have hlen : (thereFrom d.files (d.list.take k) ++ pre.map (·.news)).length + 1 ≤ (thereOf d).length := by
          have := congrArg List.length Hth.out
          simp only [List.length_append, List.length_map] at this ⊢
          omega
        have hby : ((thereFrom d.files (d.list.take k) ++ pre.map (·.news)).length + 1) * 56 ≤ 140737488355328 := by omega
        clear hlen
        gi_wp2_with (gi_at_builtin; refine R_appendIn kNews (w.heap.size + 1) (w0 := W) rfl _ _ _ 26 (.agg #[.int .i64 0, .int .i64 0, .int .i64 0, .int .i64 0, .int .i64 0, .int .i64 0, .int .i64 0]) 56 rfl (by kernel_rfl) (by kernel_rfl) (by kernel_rfl) (by decide) (by omega) v (thereFrom d.files (d.list.take k) ++ pre.map (·.news)) x.news [.int .i64 x.news.do_, .int .i64 x.news.src, .int .i64 x.news.id, .int .i64 x.news.ver, .int .i64 x.news.body.at_, .int .i64 x.news.body.key, .int .i64 x.news.body.val] rfl rfl (fun w => kNews_mkM w _ _ x.news) h2 (Below.refl _ _) (by omega) hby ?_; intro v1 w1 r1 r2 r3 r4; obtain ⟨A1, n1, cc1, rfl⟩ := R_slice' r1; have h1' := h1.kept r3 (R_ne_lt h2 (Nat.lt_succ_self _)); have kv1 := h1'.cell 0 _ rfl; have kf1 := h1'.frozen 0)
        have hk1 : KeepsOthers W (w1.setCell ⟨w.heap.size, 0, none⟩ (.slice A1 n1 cc1)) := (R_keeps h2 r3).trans (KeepsOthers.setCell _ _ _)
        have hb1 : Below w.heap.size W (w1.setCell ⟨w.heap.size, 0, none⟩ (.slice A1 n1 cc1)) := (Below.mono r2 (Nat.le_succ _)).setCell (p := ⟨w.heap.size, 0, none⟩) (Nat.le_refl _) _
        exact ⟨hk1.from _, hb1, ⟨_, h1'.set _, by have := R_set_low r1 (p := ⟨w.heap.size, 0, none⟩) (Nat.lt_succ_self _) (.slice A1 n1 cc1); simpa using this, h3.trans hb1, h4.others hk1, Nat.le_trans h5 hb1.size⟩⟩
      case done =>
        rintro D ys W hD rfl ⟨v, h1, h2, h3, h4, h5⟩ hK
        rw [← Hth.out] at h2
        go_wp2
        exact ⟨⟨k + 1, _, _, _, _, _, _, _, _, _, _, _, D :: Ds, v, rfl, by omega, h1, h2, h3, h4.cons (fun E hE => Nat.lt_of_lt_of_le (hmk.lt E hE) hb3.size) hD (by omega) hK, by omega⟩, by simp [intOf]; omega⟩
      case stop =>
        rintro D c pre W _ _ h _
        exact h.elim
    · have hkl : k = d.list.length := by omega
      have hth : thereFrom d.files (d.list.take k) = thereOf d := by rw [hkl, List.take_length]; rfl
      rw [hth] at hown
      clear hkl hth
      go_wp2
      refine leaves_marks (n0 := w.heap.size) (v := v) (fun w' => by rw [results_tmp (t := 2) rfl]; rfl) Ds wr ⟨hmk.nodup, fun D hD => ⟨by have := (hmk.held D hD).1; omega, (hmk.held D hD).2⟩⟩ (by omega) ?_
      intro w' hb' hk'
      exact ⟨v, rfl, Kd.R_lower (R_cells hown hk') (by omega), hB.trans hb'⟩
end Go.Proofs.Ytfmojgdomficlaa
