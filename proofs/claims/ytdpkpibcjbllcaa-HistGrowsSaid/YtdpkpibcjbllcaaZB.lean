/-
  Texts of one hand, laid together: HeardTypes, Heard, Heard2, Own, Heard3.
-/
import Derived.Test.YtdpkpibcjbllcaaZA
import Derived.Deep.RegionWith
set_option linter.unusedVariables false
/-! What has been heard: of each event the news that counts, and the marks. Plain. -/
namespace Go.Proofs.Ytdpkpibcjbllcaa
abbrev zeroNews : News := ⟨0, 0, 0, 0, ⟨0, 0, 0⟩⟩
def keyOf (n : News) : Key := ⟨n.src, n.id⟩
/-- One more is heard: events. -/
def hearL (L : List (Key × News)) (n : News) : List (Key × News) :=
  match aget (keyOf n) L with
  | none => aput (keyOf n) n L
  | some x => if x.ver < n.ver then aput (keyOf n) n L else L
/-- .. and marks. -/
def hearM (M : List Int) (n : News) : List Int := M.set n.src.toNat (max (M.getD n.src.toNat 0) n.body.at_)
def hear (s : List (Key × News) × List Int) (n : News) : List (Key × News) × List Int := if n.do_ = 3 then (s.1, hearM s.2 n) else (hearL s.1 n, s.2)
def hearAll (l : List News) : List (Key × News) × List Int := l.foldl hear ([], [0, 0, 0, 0])
theorem hearAll_snoc (l : List News) (n : News) : hearAll (l ++ [n]) = hear (hearAll l) n := by simp [hearAll]
/-- By which numbers a least list is sorted, behind the source. -/
def kN1 (n : News) : Int := if n.do_ = 3 then 1 else 0
def kN2 (n : News) : Int := if n.do_ = 3 then 0 else n.id
def mapV {κ α β : Type} (f : α → β) (L : List (κ × α)) : List (κ × β) := L.map fun p => (p.1, f p.2)
theorem aget_mapV {κ α β : Type} [DecidableEq κ] (f : α → β) (k : κ) : ∀ L : List (κ × α), aget k (mapV f L) = (aget k L).map f
  | [] => rfl
  | (a, v) :: L => by
    show aget k ((a, f v) :: mapV f L) = _
    simp only [aget]
    split
    · rfl
    · exact aget_mapV f k L
theorem aput_mapV {κ α β : Type} [DecidableEq κ] (f : α → β) (k : κ) (x : α) : ∀ L : List (κ × α), aput k (f x) (mapV f L) = mapV f (aput k x L)
  | [] => rfl
  | (a, v) :: L => by
    show aput k (f x) ((a, f v) :: mapV f L) = _
    simp only [aput]
    split
    · rfl
    · show (a, f v) :: aput k (f x) (mapV f L) = _
      rw [aput_mapV f k x L]
      rfl
end Go.Proofs.Ytdpkpibcjbllcaa
set_option linter.unusedVariables false
set_option linter.unusedSimpArgs false
namespace Go.Proofs.Ytdpkpibcjbllcaa
open Go.RowKit Go.Proofs.YtdpkpibcjbllcaaW.PrintWords

abbrev encKey (k : Key) : Value := .agg #[.int .i64 k.src, .int .i64 k.id]
abbrev newsVal (n : News) : Value := .agg #[.int .i64 n.do_, .int .i64 n.src, .int .i64 n.id, .int .i64 n.ver, .int .i64 n.body.at_, .int .i64 n.body.key, .int .i64 n.body.val]
theorem keyLaw : KeyT Try.prog 67 encKey := by
  refine keyT_struct (fs := Try.prog.fieldsOf 67) (by kernel_rfl) (fun k => ⟨_, rfl⟩) (fun em k w => by kernel_rfl) (fun a b w => ?_) (fun k => by simp [Instr.sameBits])
  have h := eqKey 9998 w a.src b.src a.id b.id
  exact h
/-- A fact that the walk does not look into. -/
structure Aside (p : Prop) : Prop where mk :: (out : p)
/-- What has been heard, in memory: a struct in the block g, its map in the block b. -/
structure HeardAt (w : World) (g b : Nat) (L : List (Key × News)) (M : List Int) : Prop where
  len : M.length = 4
  cells : w.heap[g]? = some (.cells #[.map (some b), .int .i64 (M.getD 0 0), .int .i64 (M.getD 1 0), .int .i64 (M.getD 2 0), .int .i64 (M.getD 3 0)] 65 (0, 0))
  map : w.heap[b]? = some (mapObj encKey (mapV newsVal L))
/-- What a call changes that is handed the state: the two blocks alone. -/
structure Chg (g b : Nat) (w w' : World) : Prop where
  os : w'.os = w.os
  tape : w'.tape = w.tape
  output : w'.output = w.output
  size : w.heap.size ≤ w'.heap.size
  block : ∀ k, k < w.heap.size → k ≠ g → k ≠ b → w'.heap[k]? = w.heap[k]?
theorem Chg.refl (g b : Nat) (w : World) : Chg g b w w := ⟨rfl, rfl, rfl, Nat.le_refl _, fun _ _ _ _ => rfl⟩
theorem Chg.trans {g b : Nat} {w w1 w2 : World} (h : Chg g b w w1) (k : Chg g b w1 w2) : Chg g b w w2 :=
  ⟨k.os.trans h.os, k.tape.trans h.tape, k.output.trans h.output, Nat.le_trans h.size k.size, fun i hi h1 h2 => (k.block i (Nat.lt_of_lt_of_le hi h.size) h1 h2).trans (h.block i hi h1 h2)⟩
theorem Chg.of_below {g b : Nat} {w w1 : World} (h : Below w.heap.size w w1) : Chg g b w w1 := ⟨h.os, h.tape, h.output, h.size, fun i hi _ _ => h.block i hi⟩
theorem Chg.below {B g b : Nat} {w0 w w1 : World} (h : Below B w0 w) (k : Chg g b w w1) (hB : B ≤ w.heap.size) (hg : B ≤ g) (hb : B ≤ b) : Below B w0 w1 :=
  ⟨k.os.trans h.os, k.tape.trans h.tape, k.output.trans h.output, Nat.le_trans h.size k.size, fun i hi => (k.block i (by omega) (by omega) (by omega)).trans (h.block i hi)⟩
theorem HeardAt.later {w w' : World} {g b : Nat} {L : List (Key × News)} {M : List Int} (h : HeardAt w g b L M) (hb : Below w.heap.size w w') : HeardAt w' g b L M :=
  ⟨h.len, heap_later hb h.cells, heap_later hb h.map⟩
theorem HeardAt.cell {w : World} {g b : Nat} {L : List (Key × News)} {M : List Int} (h : HeardAt w g b L M) : w.cell? ⟨g, 0, none⟩ = some (.map (some b)) := by simp [World.cell?, h.cells]
theorem HeardAt.mark {w : World} {g b : Nat} {L : List (Key × News)} {M : List Int} (h : HeardAt w g b L M) (i : Nat) (hi : i < 4) : w.cell? ⟨g, 1 + i, none⟩ = some (.int .i64 (M.getD i 0)) := by
  have hc := h.cells
  rcases i with _ | _ | _ | _ | i
  · simp [World.cell?, hc]
  · simp [World.cell?, hc]
  · simp [World.cell?, hc]
  · simp [World.cell?, hc]
  · omega
theorem HeardAt.frozen {w : World} {g b : Nat} {L : List (Key × News)} {M : List Int} (h : HeardAt w g b L M) (i : Nat) : w.frozen? ⟨g, i, none⟩ = false := by simp [World.frozen?, h.cells]
theorem HeardAt.ne {w : World} {g b : Nat} {L : List (Key × News)} {M : List Int} (h : HeardAt w g b L M) : g ≠ b := by
  intro e
  have h1 := h.cells
  have h2 := h.map
  rw [e, h2] at h1
  simp [mapObj] at h1

theorem lookup_none {L : List (Key × News)} {n : News} {b : Nat} {W : World} (ha : aget (keyOf n) L = none) (hm : W.heap[b]? = some (mapObj encKey (mapV newsVal L))) :
    (Instr.lookup 62 (.map (some b)) (.agg #[.int .i64 n.src, .int .i64 n.id]) true).run Try.prog W = .ok (.tuple #[.agg #[.int .i64 0, .int .i64 0, .int .i64 0, .int .i64 0, .int .i64 0, .int .i64 0, .int .i64 0], .bool false]) W := by
  have h : aget (keyOf n) (mapV newsVal L) = none := by rw [aget_mapV, ha]; rfl
  exact run_lookup_is (enc := encKey) (k := keyOf n) (z := newsVal zeroNews) keyLaw Try.underlying62 (fun w => by kernel_rfl) h hm
theorem lookup_some {L : List (Key × News)} {n x : News} {b : Nat} {W : World} (ha : aget (keyOf n) L = some x) (hm : W.heap[b]? = some (mapObj encKey (mapV newsVal L))) :
    (Instr.lookup 62 (.map (some b)) (.agg #[.int .i64 n.src, .int .i64 n.id]) true).run Try.prog W = .ok (.tuple #[.agg #[.int .i64 x.do_, .int .i64 x.src, .int .i64 x.id, .int .i64 x.ver, .int .i64 x.body.at_, .int .i64 x.body.key, .int .i64 x.body.val], .bool true]) W := by
  have h : aget (keyOf n) (mapV newsVal L) = some (newsVal x) := by rw [aget_mapV, ha]; rfl
  exact run_lookup_is (enc := encKey) (k := keyOf n) (z := newsVal zeroNews) keyLaw Try.underlying62 (fun w => by kernel_rfl) h hm
theorem store_is {L : List (Key × News)} {n : News} {b : Nat} {W : World} (hm : W.heap[b]? = some (mapObj encKey (mapV newsVal L))) :
    (Instr.mapUpdate 62 (.map (some b)) (.agg #[.int .i64 n.src, .int .i64 n.id]) (.agg #[.int .i64 n.do_, .int .i64 n.src, .int .i64 n.id, .int .i64 n.ver, .int .i64 n.body.at_, .int .i64 n.body.key, .int .i64 n.body.val])).run Try.prog W = .ok () (putMap W b (mapObj encKey (mapV newsVal (aput (keyOf n) n L)))) := by
  rw [← aput_mapV]
  exact run_store_is (enc := encKey) (k := keyOf n) keyLaw Try.underlying62 hm
theorem HeardAt.setMark {w : World} {g b : Nat} {L : List (Key × News)} {M : List Int} (h : HeardAt w g b L M) (i : Nat) (hi : i < 4) (v : Int) : HeardAt (w.setCell ⟨g, 1 + i, none⟩ (.int .i64 v)) g b L (M.set i v) := by
  have hc := h.cells
  have hne := h.ne
  obtain ⟨m0, m1, m2, m3, rfl⟩ : ∃ a b c d, M = [a, b, c, d] := by
    have := h.len
    match M, this with
    | [a, b, c, d], _ => exact ⟨a, b, c, d, rfl⟩
  have hgl : g < w.heap.size := (Array.getElem?_eq_some_iff.1 hc).1
  refine ⟨by simp, ?_, ?_⟩
  · have e : (w.setCell ⟨g, 1 + i, none⟩ (.int .i64 v)).heap[g]? = (w.heap[g]?).map (fun o => match o with
      | .cells c elem frozen => .cells (c.setIfInBounds (1 + i) (.int .i64 v)) elem frozen
      | o => o) := by simp [World.setCell, Array.getElem?_modify]; rfl
    rw [e, hc]
    rcases i with _ | _ | _ | _ | i
    · rfl
    · rfl
    · rfl
    · rfl
    · omega
  · have e : (w.setCell ⟨g, 1 + i, none⟩ (.int .i64 v)).heap[b]? = w.heap[b]? := by simp [World.setCell, Array.getElem?_modify, hne]
    rw [e]; exact h.map
theorem Chg.setCell {g b : Nat} {w w1 : World} (h : Chg g b w w1) (j : Nat) (v : Value) : Chg g b w (w1.setCell ⟨g, j, none⟩ v) :=
  ⟨h.os, h.tape, h.output, by simp [World.setCell]; exact h.size, fun i hi h1 h2 => by
    have e : (w1.setCell ⟨g, j, none⟩ v).heap[i]? = w1.heap[i]? := by simp [World.setCell, Array.getElem?_modify, Ne.symm h1]
    rw [e]; exact h.block i hi h1 h2⟩

set_option maxRecDepth 100000 in
set_option maxHeartbeats 1000000 in
/-- A mark is heard. -/
theorem hist_hear_mark (g b : Nat) (L : List (Key × News)) (M : List Int) (n : News) (w : World) (hs : HeardAt w g b L M) (hn : n.do_ = 3) (h0 : 0 ≤ n.src) (h4 : n.src < 4) :
    Calls Try.prog 64 #[.pointer (some ⟨g, 0, none⟩), .agg #[.int .i64 n.do_, .int .i64 n.src, .int .i64 n.id, .int .i64 n.ver, .int .i64 n.body.at_, .int .i64 n.body.key, .int .i64 n.body.val]] w fun e w' => e = .returned (.tuple #[]) ∧ HeardAt w' g b L (hearM M n) ∧ Chg g b w w' := by
  have hb3 : (n.do_ == 3) = true := by simpa using hn
  have hmk := hs.mark n.src.toNat (by omega)
  have hfz := hs.frozen (1 + n.src.toNat)
  have hgl : g < w.heap.size := World.block_lt_of_cell? w _ hs.cell
  have Hs := Lib.hid hs
  clear hs hn
  go_enter Try.func64, Try.ntmps64
  go_upto_region 2 with (fail)
  refine wp_region_quiet_tail 17 (fun W => W = ((w.alloc (.cells #[.int .i64 n.do_, .int .i64 n.src, .int .i64 n.id, .int .i64 n.ver, .int .i64 n.body.at_, .int .i64 n.body.key, .int .i64 n.body.val] 38)).drew)) (by kernel_rfl) (by kernel_rfl) rfl ?_
  go_simp
  repeat (refine wpQuiet_step (fun K hK => ?_); go_simp; first | (refine hK _ ?_; clear hK K) | (apply Exists.intro; refine ⟨fun W hC => ?_, hK _ ?_⟩; (first | rfl | (subst hC; go_simp; rfl)); clear hK K))
  refine wpQuiet_nil ?_
  try (intro W hC; subst hC)
  go_wp2
  all_goals refine bodyPost_ret (results_none rfl _ _ _) rfl ?_
  all_goals refine ⟨rfl, ?_, ?_⟩
  · have e : hearM M n = M.set n.src.toNat n.body.at_ := by
      unfold hearM
      rw [List.getD_eq_getElem?_getD]
      congr 1
      omega
    rw [e]
    exact (Hs.out.setMark n.src.toNat (by omega) _).later (below_drew1 (below_alloc (Below.refl _ _) _))
  · exact (Chg.refl g b w).setCell _ _ |>.trans (Chg.of_below (below_drew1 (below_alloc (Below.refl _ _) _)))
  · have e : hearM M n = M.set n.src.toNat (M[n.src.toNat]?.getD 0) := by
      unfold hearM
      rw [List.getD_eq_getElem?_getD]
      congr 1
      omega
    rw [e]
    exact (Hs.out.setMark n.src.toNat (by omega) _).later (below_drew1 (below_alloc (Below.refl _ _) _))
  · exact (Chg.refl g b w).setCell _ _ |>.trans (Chg.of_below (below_drew1 (below_alloc (Below.refl _ _) _)))

/-- What the region of a look-up reads, in whatever later world. -/
theorem heardS_step {W1 W W' : World} {g b bn : Nat} {n : News} {L : List (Key × News)} (h : W.cell? ⟨g, 0, none⟩ = some (.map (some b)) ∧ W.cell? ⟨bn, 0, none⟩ = some (.int .i64 n.do_) ∧ W.cell? ⟨bn, 1, none⟩ = some (.int .i64 n.src) ∧ W.cell? ⟨bn, 2, none⟩ = some (.int .i64 n.id) ∧ W.cell? ⟨bn, 3, none⟩ = some (.int .i64 n.ver) ∧ W.cell? ⟨bn, 4, none⟩ = some (.int .i64 n.body.at_) ∧ W.cell? ⟨bn, 5, none⟩ = some (.int .i64 n.body.key) ∧ W.cell? ⟨bn, 6, none⟩ = some (.int .i64 n.body.val) ∧ W.heap[b]? = some (mapObj encKey (mapV newsVal L)) ∧ Below W1.heap.size W1 W) (hb : Below W.heap.size W W') : W'.cell? ⟨g, 0, none⟩ = some (.map (some b)) ∧ W'.cell? ⟨bn, 0, none⟩ = some (.int .i64 n.do_) ∧ W'.cell? ⟨bn, 1, none⟩ = some (.int .i64 n.src) ∧ W'.cell? ⟨bn, 2, none⟩ = some (.int .i64 n.id) ∧ W'.cell? ⟨bn, 3, none⟩ = some (.int .i64 n.ver) ∧ W'.cell? ⟨bn, 4, none⟩ = some (.int .i64 n.body.at_) ∧ W'.cell? ⟨bn, 5, none⟩ = some (.int .i64 n.body.key) ∧ W'.cell? ⟨bn, 6, none⟩ = some (.int .i64 n.body.val) ∧ W'.heap[b]? = some (mapObj encKey (mapV newsVal L)) ∧ Below W1.heap.size W1 W' := by
  obtain ⟨h0, h1, h2, h3, h4, h5, h6, h7, h8, h9⟩ := h
  exact ⟨cell_later' hb h0, cell_later' hb h1, cell_later' hb h2, cell_later' hb h3, cell_later' hb h4, cell_later' hb h5, cell_later' hb h6, cell_later' hb h7, heap_later hb h8, below_step h9 hb⟩

/-- The same as a class of worlds that the walk does not look into. -/
structure HeldS (g b bn : Nat) (n : News) (L : List (Key × News)) (W1 W : World) : Prop where mk :: (out : W.cell? ⟨g, 0, none⟩ = some (.map (some b)) ∧ W.cell? ⟨bn, 0, none⟩ = some (.int .i64 n.do_) ∧ W.cell? ⟨bn, 1, none⟩ = some (.int .i64 n.src) ∧ W.cell? ⟨bn, 2, none⟩ = some (.int .i64 n.id) ∧ W.cell? ⟨bn, 3, none⟩ = some (.int .i64 n.ver) ∧ W.cell? ⟨bn, 4, none⟩ = some (.int .i64 n.body.at_) ∧ W.cell? ⟨bn, 5, none⟩ = some (.int .i64 n.body.key) ∧ W.cell? ⟨bn, 6, none⟩ = some (.int .i64 n.body.val) ∧ W.heap[b]? = some (mapObj encKey (mapV newsVal L)) ∧ Below W1.heap.size W1 W)
theorem HeldS.step {W1 W W' : World} {g b bn : Nat} {n : News} {L : List (Key × News)} (h : HeldS g b bn n L W1 W) (hb : Below W.heap.size W W') : HeldS g b bn n L W1 W' := ⟨heardS_step h.out hb⟩
theorem putMap_below_self {w : World} {b : Nat} {o : Obj} {k : Nat} (h : k ≠ b) : (putMap w b o).heap[k]? = w.heap[k]? := putMap_ne w h o
theorem Chg.putMap {g b : Nat} {w w1 : World} (h : Chg g b w w1) (o : Obj) : Chg g b w (putMap w1 b o) :=
  ⟨h.os, h.tape, h.output, by rw [putMap_size]; exact h.size, fun i hi h1 h2 => by rw [putMap_ne w1 h2]; exact h.block i hi h1 h2⟩
theorem HeardAt.putMap {w : World} {g b : Nat} {L : List (Key × News)} {M : List Int} (h : HeardAt w g b L M) (L' : List (Key × News)) : HeardAt (putMap w b (mapObj encKey (mapV newsVal L'))) g b L' M :=
  ⟨h.len, by rw [putMap_ne w h.ne]; exact h.cells, putMap_at h.map _⟩

set_option maxRecDepth 100000 in
set_option maxHeartbeats 2000000 in
/-- An event is heard for the first time. -/
theorem hist_hear_new (g b : Nat) (L : List (Key × News)) (M : List Int) (n : News) (w : World) (hs : HeardAt w g b L M) (hn : n.do_ ≠ 3) (ha : aget (keyOf n) L = none) :
    Calls Try.prog 64 #[.pointer (some ⟨g, 0, none⟩), .agg #[.int .i64 n.do_, .int .i64 n.src, .int .i64 n.id, .int .i64 n.ver, .int .i64 n.body.at_, .int .i64 n.body.key, .int .i64 n.body.val]] w fun e w' => e = .returned (.tuple #[]) ∧ HeardAt w' g b (aput (keyOf n) n L) M ∧ Chg g b w w' := by
  have hb3 : (n.do_ == 3) = false := by simpa using hn
  have hc0 := hs.cell
  have hgl : g < w.heap.size := World.block_lt_of_cell? w _ hs.cell
  have hbl : b < w.heap.size := (Array.getElem?_eq_some_iff.1 hs.map).1
  have Hs := Lib.hid hs
  have Ha := Lib.hid ha
  clear hs hn ha
  go_enter Try.func64, Try.ntmps64
  go_upto_region 3 with (fail)
  have i0 : (w.alloc (.cells #[.int .i64 n.do_, .int .i64 n.src, .int .i64 n.id, .int .i64 n.ver, .int .i64 n.body.at_, .int .i64 n.body.key, .int .i64 n.body.val] 38)).cell? ⟨w.heap.size, 0, none⟩ = some (.int .i64 n.do_) := by go_simp
  have i1 : (w.alloc (.cells #[.int .i64 n.do_, .int .i64 n.src, .int .i64 n.id, .int .i64 n.ver, .int .i64 n.body.at_, .int .i64 n.body.key, .int .i64 n.body.val] 38)).cell? ⟨w.heap.size, 1, none⟩ = some (.int .i64 n.src) := by go_simp
  have i2 : (w.alloc (.cells #[.int .i64 n.do_, .int .i64 n.src, .int .i64 n.id, .int .i64 n.ver, .int .i64 n.body.at_, .int .i64 n.body.key, .int .i64 n.body.val] 38)).cell? ⟨w.heap.size, 2, none⟩ = some (.int .i64 n.id) := by go_simp
  have i3 : (w.alloc (.cells #[.int .i64 n.do_, .int .i64 n.src, .int .i64 n.id, .int .i64 n.ver, .int .i64 n.body.at_, .int .i64 n.body.key, .int .i64 n.body.val] 38)).cell? ⟨w.heap.size, 3, none⟩ = some (.int .i64 n.ver) := by go_simp
  have i4 : (w.alloc (.cells #[.int .i64 n.do_, .int .i64 n.src, .int .i64 n.id, .int .i64 n.ver, .int .i64 n.body.at_, .int .i64 n.body.key, .int .i64 n.body.val] 38)).cell? ⟨w.heap.size, 4, none⟩ = some (.int .i64 n.body.at_) := by go_simp
  have i5 : (w.alloc (.cells #[.int .i64 n.do_, .int .i64 n.src, .int .i64 n.id, .int .i64 n.ver, .int .i64 n.body.at_, .int .i64 n.body.key, .int .i64 n.body.val] 38)).cell? ⟨w.heap.size, 5, none⟩ = some (.int .i64 n.body.key) := by go_simp
  have i6 : (w.alloc (.cells #[.int .i64 n.do_, .int .i64 n.src, .int .i64 n.id, .int .i64 n.ver, .int .i64 n.body.at_, .int .i64 n.body.key, .int .i64 n.body.val] 38)).cell? ⟨w.heap.size, 6, none⟩ = some (.int .i64 n.body.val) := by go_simp
  have hBa : Below w.heap.size w (w.alloc (.cells #[.int .i64 n.do_, .int .i64 n.src, .int .i64 n.id, .int .i64 n.ver, .int .i64 n.body.at_, .int .i64 n.body.key, .int .i64 n.body.val] 38)) := below_alloc (Below.refl _ _) _
  have g0 := cell_later' hBa hc0
  have hmp := heap_later hBa Hs.out.map
  have hlk : ∀ W : World, W.heap[b]? = some (mapObj encKey (mapV newsVal L)) → (Instr.lookup 62 (.map (some b)) (.agg #[.int .i64 n.src, .int .i64 n.id]) true).run Try.prog W = .ok (.tuple #[.agg #[.int .i64 0, .int .i64 0, .int .i64 0, .int .i64 0, .int .i64 0, .int .i64 0, .int .i64 0], .bool false]) W := fun W h => lookup_none Ha.out h
  have hwW : w.heap.size < (w.alloc (.cells #[.int .i64 n.do_, .int .i64 n.src, .int .i64 n.id, .int .i64 n.ver, .int .i64 n.body.at_, .int .i64 n.body.key, .int .i64 n.body.val] 38)).heap.size := by simp
  generalize (w.alloc (.cells #[.int .i64 n.do_, .int .i64 n.src, .int .i64 n.id, .int .i64 n.ver, .int .i64 n.body.at_, .int .i64 n.body.key, .int .i64 n.body.val] 38)) = W1 at *
  generalize hbn : w.heap.size = bn at *
  go_cut [4, 5] (fun v4 v5 wc => ∃ b4, v4 = .pointer (some ⟨b4, 0, none⟩) ∧ v5 = .bool false ∧ Aside (W1.heap.size ≤ b4 ∧ b4 < wc.heap.size) ∧ Aside (Below W1.heap.size W1 wc))
  case first =>
    go_region_held3 (fun W => W.cell? ⟨g, 0, none⟩ = some (.map (some b)) ∧ W.cell? ⟨bn, 0, none⟩ = some (.int .i64 n.do_) ∧ W.cell? ⟨bn, 1, none⟩ = some (.int .i64 n.src) ∧ W.cell? ⟨bn, 2, none⟩ = some (.int .i64 n.id) ∧ W.cell? ⟨bn, 3, none⟩ = some (.int .i64 n.ver) ∧ W.cell? ⟨bn, 4, none⟩ = some (.int .i64 n.body.at_) ∧ W.cell? ⟨bn, 5, none⟩ = some (.int .i64 n.body.key) ∧ W.cell? ⟨bn, 6, none⟩ = some (.int .i64 n.body.val) ∧ W.heap[b]? = some (mapObj encKey (mapV newsVal L)) ∧ Below W1.heap.size W1 W)
    (first | assumption | exact heardS_step (by assumption) (below_alloc (Below.refl _ _) _) | exact heardS_step (by assumption) (below_alloc (below_alloc (Below.refl _ _) _) _) | exact heardS_step (by assumption) (by assumption) | exact ⟨g0, i0, i1, i2, i3, i4, i5, i6, hmp, below_drew1 (Below.refl _ _)⟩ | exact heardS_step ⟨g0, i0, i1, i2, i3, i4, i5, i6, hmp, Below.refl _ _⟩ (by repeat (first | exact Below.refl _ _ | apply below_alloc | apply below_drew1)))
    (first | (go_at_call 72; (with_reducible refine (hist_of_exact n _).mono ?_); rintro e w' ⟨rfl, rfl⟩))
    all_goals go_wp2
    all_goals go_meet
    all_goals (case rel => exact ⟨_, rfl, rfl, ⟨by first | omega | (simp; try omega), by first | omega | (simp; try omega)⟩, ⟨(by repeat (first | exact Below.refl _ _ | assumption | apply below_alloc | apply below_drew1 | apply pw_below_drewN | refine below_step ?_ (by assumption)))⟩⟩)
  case rest =>
    obtain ⟨b4, rfl, rfl, hb4, hB⟩ := hcut
    clear hlk
    go_upto_region 5 with (fail)
    have hSc : HeldS g b bn n L W1 wc := ⟨heardS_step ⟨g0, i0, i1, i2, i3, i4, i5, i6, hmp, Below.refl _ _⟩ hB.out⟩
    clear g0 i0 i1 i2 i3 i4 i5 i6 hmp
    refine wp_region_quiet_tail 7 (HeldS g b bn n L W1) (by kernel_rfl) (by kernel_rfl) (hSc.step (below_drew1 (Below.refl _ _))) ?_
    clear hSc
    go_simp
    repeat (refine wpQuiet_step (fun K hK => ?_); go_simp; first | (refine hK _ ?_; clear hK K) | (apply Exists.intro; refine ⟨fun W hC => ?_, hK _ ?_⟩; (first | rfl | ((with_reducible refine (hist_of n _).mono ?_); rintro e w' ⟨rfl, hb⟩; exact ⟨rfl, hC.step hb⟩) | (obtain ⟨h0, h1, h2, h3, h4, h5, h6, h7, h8, h9⟩ := hC.out; go_simp; rfl)); clear hK K))
    refine wpQuiet_nil ?_
    intro W hC
    obtain ⟨_, _, _, _, _, _, _, _, hmW, hBW⟩ := hC.out
    have hst := store_is (n := n) hmW
    clear hmW
    go_wp2
    go_end0
    subst hbn
    have hBw := below_step hBa hBW
    exact ⟨rfl, (Hs.out.later hBw).putMap _, (Chg.of_below hBw).putMap _⟩
set_option maxRecDepth 100000 in
set_option maxHeartbeats 2000000 in
/-- An event is heard by a greater version. -/
theorem hist_hear_more (g b : Nat) (L : List (Key × News)) (M : List Int) (n x : News) (w : World) (hs : HeardAt w g b L M) (hn : n.do_ ≠ 3) (ha : aget (keyOf n) L = some x) (hv : x.ver < n.ver) :
    Calls Try.prog 64 #[.pointer (some ⟨g, 0, none⟩), .agg #[.int .i64 n.do_, .int .i64 n.src, .int .i64 n.id, .int .i64 n.ver, .int .i64 n.body.at_, .int .i64 n.body.key, .int .i64 n.body.val]] w fun e w' => e = .returned (.tuple #[]) ∧ HeardAt w' g b (aput (keyOf n) n L) M ∧ Chg g b w w' := by
  have hb3 : (n.do_ == 3) = false := by simpa using hn
  have hc0 := hs.cell
  have hgl : g < w.heap.size := World.block_lt_of_cell? w _ hs.cell
  have hbl : b < w.heap.size := (Array.getElem?_eq_some_iff.1 hs.map).1
  have Hs := Lib.hid hs
  have Ha := Lib.hid ha
  clear hs hn ha
  go_enter Try.func64, Try.ntmps64
  go_upto_region 3 with (fail)
  have i0 : (w.alloc (.cells #[.int .i64 n.do_, .int .i64 n.src, .int .i64 n.id, .int .i64 n.ver, .int .i64 n.body.at_, .int .i64 n.body.key, .int .i64 n.body.val] 38)).cell? ⟨w.heap.size, 0, none⟩ = some (.int .i64 n.do_) := by go_simp
  have i1 : (w.alloc (.cells #[.int .i64 n.do_, .int .i64 n.src, .int .i64 n.id, .int .i64 n.ver, .int .i64 n.body.at_, .int .i64 n.body.key, .int .i64 n.body.val] 38)).cell? ⟨w.heap.size, 1, none⟩ = some (.int .i64 n.src) := by go_simp
  have i2 : (w.alloc (.cells #[.int .i64 n.do_, .int .i64 n.src, .int .i64 n.id, .int .i64 n.ver, .int .i64 n.body.at_, .int .i64 n.body.key, .int .i64 n.body.val] 38)).cell? ⟨w.heap.size, 2, none⟩ = some (.int .i64 n.id) := by go_simp
  have i3 : (w.alloc (.cells #[.int .i64 n.do_, .int .i64 n.src, .int .i64 n.id, .int .i64 n.ver, .int .i64 n.body.at_, .int .i64 n.body.key, .int .i64 n.body.val] 38)).cell? ⟨w.heap.size, 3, none⟩ = some (.int .i64 n.ver) := by go_simp
  have i4 : (w.alloc (.cells #[.int .i64 n.do_, .int .i64 n.src, .int .i64 n.id, .int .i64 n.ver, .int .i64 n.body.at_, .int .i64 n.body.key, .int .i64 n.body.val] 38)).cell? ⟨w.heap.size, 4, none⟩ = some (.int .i64 n.body.at_) := by go_simp
  have i5 : (w.alloc (.cells #[.int .i64 n.do_, .int .i64 n.src, .int .i64 n.id, .int .i64 n.ver, .int .i64 n.body.at_, .int .i64 n.body.key, .int .i64 n.body.val] 38)).cell? ⟨w.heap.size, 5, none⟩ = some (.int .i64 n.body.key) := by go_simp
  have i6 : (w.alloc (.cells #[.int .i64 n.do_, .int .i64 n.src, .int .i64 n.id, .int .i64 n.ver, .int .i64 n.body.at_, .int .i64 n.body.key, .int .i64 n.body.val] 38)).cell? ⟨w.heap.size, 6, none⟩ = some (.int .i64 n.body.val) := by go_simp
  have hBa : Below w.heap.size w (w.alloc (.cells #[.int .i64 n.do_, .int .i64 n.src, .int .i64 n.id, .int .i64 n.ver, .int .i64 n.body.at_, .int .i64 n.body.key, .int .i64 n.body.val] 38)) := below_alloc (Below.refl _ _) _
  have g0 := cell_later' hBa hc0
  have hmp := heap_later hBa Hs.out.map
  have hlk : ∀ W : World, W.heap[b]? = some (mapObj encKey (mapV newsVal L)) → (Instr.lookup 62 (.map (some b)) (.agg #[.int .i64 n.src, .int .i64 n.id]) true).run Try.prog W = .ok (.tuple #[.agg #[.int .i64 x.do_, .int .i64 x.src, .int .i64 x.id, .int .i64 x.ver, .int .i64 x.body.at_, .int .i64 x.body.key, .int .i64 x.body.val], .bool true]) W := fun W h => lookup_some Ha.out h
  have hwW : w.heap.size < (w.alloc (.cells #[.int .i64 n.do_, .int .i64 n.src, .int .i64 n.id, .int .i64 n.ver, .int .i64 n.body.at_, .int .i64 n.body.key, .int .i64 n.body.val] 38)).heap.size := by simp
  generalize (w.alloc (.cells #[.int .i64 n.do_, .int .i64 n.src, .int .i64 n.id, .int .i64 n.ver, .int .i64 n.body.at_, .int .i64 n.body.key, .int .i64 n.body.val] 38)) = W1 at *
  generalize hbn : w.heap.size = bn at *
  go_cut [4, 5] (fun v4 v5 wc => ∃ b4, v4 = .pointer (some ⟨b4, 0, none⟩) ∧ v5 = .bool true ∧ Aside (W1.heap.size ≤ b4 ∧ b4 < wc.heap.size) ∧ wc.cell? ⟨b4, 3, none⟩ = some (.int .i64 x.ver) ∧ Aside (Below W1.heap.size W1 wc))
  case first =>
    go_region_held3 (fun W => W.cell? ⟨g, 0, none⟩ = some (.map (some b)) ∧ W.cell? ⟨bn, 0, none⟩ = some (.int .i64 n.do_) ∧ W.cell? ⟨bn, 1, none⟩ = some (.int .i64 n.src) ∧ W.cell? ⟨bn, 2, none⟩ = some (.int .i64 n.id) ∧ W.cell? ⟨bn, 3, none⟩ = some (.int .i64 n.ver) ∧ W.cell? ⟨bn, 4, none⟩ = some (.int .i64 n.body.at_) ∧ W.cell? ⟨bn, 5, none⟩ = some (.int .i64 n.body.key) ∧ W.cell? ⟨bn, 6, none⟩ = some (.int .i64 n.body.val) ∧ W.heap[b]? = some (mapObj encKey (mapV newsVal L)) ∧ Below W1.heap.size W1 W)
    (first | assumption | exact heardS_step (by assumption) (below_alloc (Below.refl _ _) _) | exact heardS_step (by assumption) (below_alloc (below_alloc (Below.refl _ _) _) _) | exact heardS_step (by assumption) (by assumption) | exact ⟨g0, i0, i1, i2, i3, i4, i5, i6, hmp, below_drew1 (Below.refl _ _)⟩ | exact heardS_step ⟨g0, i0, i1, i2, i3, i4, i5, i6, hmp, Below.refl _ _⟩ (by repeat (first | exact Below.refl _ _ | apply below_alloc | apply below_drew1)))
    (first | (go_at_call 72; (with_reducible refine (hist_of_exact n _).mono ?_); rintro e w' ⟨rfl, rfl⟩))
    all_goals go_wp2
    all_goals go_meet
    all_goals (case rel => exact ⟨_, rfl, rfl, ⟨by first | omega | (simp; try omega), by first | omega | (simp; try omega)⟩, by go_simp, ⟨(by repeat (first | exact Below.refl _ _ | assumption | apply below_alloc | apply below_drew1 | apply pw_below_drewN | refine below_step ?_ (by assumption)))⟩⟩)
  case rest =>
    obtain ⟨b4, rfl, rfl, hb4, hv4, hB⟩ := hcut
    clear hlk
    have i3' := cell_later' hB.out i3
    go_upto_region 5 with (fail)
    clear i3' hv4
    have hSc : HeldS g b bn n L W1 wc := ⟨heardS_step ⟨g0, i0, i1, i2, i3, i4, i5, i6, hmp, Below.refl _ _⟩ hB.out⟩
    clear g0 i0 i1 i2 i3 i4 i5 i6 hmp
    refine wp_region_quiet_tail 7 (HeldS g b bn n L W1) (by kernel_rfl) (by kernel_rfl) (hSc.step (below_drew1 (Below.refl _ _))) ?_
    clear hSc
    go_simp
    repeat (refine wpQuiet_step (fun K hK => ?_); go_simp; first | (refine hK _ ?_; clear hK K) | (apply Exists.intro; refine ⟨fun W hC => ?_, hK _ ?_⟩; (first | rfl | ((with_reducible refine (hist_of n _).mono ?_); rintro e w' ⟨rfl, hb⟩; exact ⟨rfl, hC.step hb⟩) | (obtain ⟨h0, h1, h2, h3, h4, h5, h6, h7, h8, h9⟩ := hC.out; go_simp; rfl)); clear hK K))
    refine wpQuiet_nil ?_
    intro W hC
    obtain ⟨_, _, _, _, _, _, _, _, hmW, hBW⟩ := hC.out
    have hst := store_is (n := n) hmW
    clear hmW
    go_wp2
    go_end0
    subst hbn
    have hBw := below_step hBa hBW
    exact ⟨rfl, (Hs.out.later hBw).putMap _, (Chg.of_below hBw).putMap _⟩
set_option maxRecDepth 100000 in
set_option maxHeartbeats 2000000 in
/-- An event is heard by no greater version. -/
theorem hist_hear_less (g b : Nat) (L : List (Key × News)) (M : List Int) (n x : News) (w : World) (hs : HeardAt w g b L M) (hn : n.do_ ≠ 3) (ha : aget (keyOf n) L = some x) (hv : ¬ x.ver < n.ver) :
    Calls Try.prog 64 #[.pointer (some ⟨g, 0, none⟩), .agg #[.int .i64 n.do_, .int .i64 n.src, .int .i64 n.id, .int .i64 n.ver, .int .i64 n.body.at_, .int .i64 n.body.key, .int .i64 n.body.val]] w fun e w' => e = .returned (.tuple #[]) ∧ HeardAt w' g b L M ∧ Chg g b w w' := by
  have hb3 : (n.do_ == 3) = false := by simpa using hn
  have hc0 := hs.cell
  have hgl : g < w.heap.size := World.block_lt_of_cell? w _ hs.cell
  have hbl : b < w.heap.size := (Array.getElem?_eq_some_iff.1 hs.map).1
  have Hs := Lib.hid hs
  have Ha := Lib.hid ha
  clear hs hn ha
  go_enter Try.func64, Try.ntmps64
  go_upto_region 3 with (fail)
  have i0 : (w.alloc (.cells #[.int .i64 n.do_, .int .i64 n.src, .int .i64 n.id, .int .i64 n.ver, .int .i64 n.body.at_, .int .i64 n.body.key, .int .i64 n.body.val] 38)).cell? ⟨w.heap.size, 0, none⟩ = some (.int .i64 n.do_) := by go_simp
  have i1 : (w.alloc (.cells #[.int .i64 n.do_, .int .i64 n.src, .int .i64 n.id, .int .i64 n.ver, .int .i64 n.body.at_, .int .i64 n.body.key, .int .i64 n.body.val] 38)).cell? ⟨w.heap.size, 1, none⟩ = some (.int .i64 n.src) := by go_simp
  have i2 : (w.alloc (.cells #[.int .i64 n.do_, .int .i64 n.src, .int .i64 n.id, .int .i64 n.ver, .int .i64 n.body.at_, .int .i64 n.body.key, .int .i64 n.body.val] 38)).cell? ⟨w.heap.size, 2, none⟩ = some (.int .i64 n.id) := by go_simp
  have i3 : (w.alloc (.cells #[.int .i64 n.do_, .int .i64 n.src, .int .i64 n.id, .int .i64 n.ver, .int .i64 n.body.at_, .int .i64 n.body.key, .int .i64 n.body.val] 38)).cell? ⟨w.heap.size, 3, none⟩ = some (.int .i64 n.ver) := by go_simp
  have i4 : (w.alloc (.cells #[.int .i64 n.do_, .int .i64 n.src, .int .i64 n.id, .int .i64 n.ver, .int .i64 n.body.at_, .int .i64 n.body.key, .int .i64 n.body.val] 38)).cell? ⟨w.heap.size, 4, none⟩ = some (.int .i64 n.body.at_) := by go_simp
  have i5 : (w.alloc (.cells #[.int .i64 n.do_, .int .i64 n.src, .int .i64 n.id, .int .i64 n.ver, .int .i64 n.body.at_, .int .i64 n.body.key, .int .i64 n.body.val] 38)).cell? ⟨w.heap.size, 5, none⟩ = some (.int .i64 n.body.key) := by go_simp
  have i6 : (w.alloc (.cells #[.int .i64 n.do_, .int .i64 n.src, .int .i64 n.id, .int .i64 n.ver, .int .i64 n.body.at_, .int .i64 n.body.key, .int .i64 n.body.val] 38)).cell? ⟨w.heap.size, 6, none⟩ = some (.int .i64 n.body.val) := by go_simp
  have hBa : Below w.heap.size w (w.alloc (.cells #[.int .i64 n.do_, .int .i64 n.src, .int .i64 n.id, .int .i64 n.ver, .int .i64 n.body.at_, .int .i64 n.body.key, .int .i64 n.body.val] 38)) := below_alloc (Below.refl _ _) _
  have g0 := cell_later' hBa hc0
  have hmp := heap_later hBa Hs.out.map
  have hlk : ∀ W : World, W.heap[b]? = some (mapObj encKey (mapV newsVal L)) → (Instr.lookup 62 (.map (some b)) (.agg #[.int .i64 n.src, .int .i64 n.id]) true).run Try.prog W = .ok (.tuple #[.agg #[.int .i64 x.do_, .int .i64 x.src, .int .i64 x.id, .int .i64 x.ver, .int .i64 x.body.at_, .int .i64 x.body.key, .int .i64 x.body.val], .bool true]) W := fun W h => lookup_some Ha.out h
  have hwW : w.heap.size < (w.alloc (.cells #[.int .i64 n.do_, .int .i64 n.src, .int .i64 n.id, .int .i64 n.ver, .int .i64 n.body.at_, .int .i64 n.body.key, .int .i64 n.body.val] 38)).heap.size := by simp
  generalize (w.alloc (.cells #[.int .i64 n.do_, .int .i64 n.src, .int .i64 n.id, .int .i64 n.ver, .int .i64 n.body.at_, .int .i64 n.body.key, .int .i64 n.body.val] 38)) = W1 at *
  generalize hbn : w.heap.size = bn at *
  go_cut [4, 5] (fun v4 v5 wc => ∃ b4, v4 = .pointer (some ⟨b4, 0, none⟩) ∧ v5 = .bool true ∧ Aside (W1.heap.size ≤ b4 ∧ b4 < wc.heap.size) ∧ wc.cell? ⟨b4, 3, none⟩ = some (.int .i64 x.ver) ∧ Aside (Below W1.heap.size W1 wc))
  case first =>
    go_region_held3 (fun W => W.cell? ⟨g, 0, none⟩ = some (.map (some b)) ∧ W.cell? ⟨bn, 0, none⟩ = some (.int .i64 n.do_) ∧ W.cell? ⟨bn, 1, none⟩ = some (.int .i64 n.src) ∧ W.cell? ⟨bn, 2, none⟩ = some (.int .i64 n.id) ∧ W.cell? ⟨bn, 3, none⟩ = some (.int .i64 n.ver) ∧ W.cell? ⟨bn, 4, none⟩ = some (.int .i64 n.body.at_) ∧ W.cell? ⟨bn, 5, none⟩ = some (.int .i64 n.body.key) ∧ W.cell? ⟨bn, 6, none⟩ = some (.int .i64 n.body.val) ∧ W.heap[b]? = some (mapObj encKey (mapV newsVal L)) ∧ Below W1.heap.size W1 W)
    (first | assumption | exact heardS_step (by assumption) (below_alloc (Below.refl _ _) _) | exact heardS_step (by assumption) (below_alloc (below_alloc (Below.refl _ _) _) _) | exact heardS_step (by assumption) (by assumption) | exact ⟨g0, i0, i1, i2, i3, i4, i5, i6, hmp, below_drew1 (Below.refl _ _)⟩ | exact heardS_step ⟨g0, i0, i1, i2, i3, i4, i5, i6, hmp, Below.refl _ _⟩ (by repeat (first | exact Below.refl _ _ | apply below_alloc | apply below_drew1)))
    (first | (go_at_call 72; (with_reducible refine (hist_of_exact n _).mono ?_); rintro e w' ⟨rfl, rfl⟩))
    all_goals go_wp2
    all_goals go_meet
    all_goals (case rel => exact ⟨_, rfl, rfl, ⟨by first | omega | (simp; try omega), by first | omega | (simp; try omega)⟩, by go_simp, ⟨(by repeat (first | exact Below.refl _ _ | assumption | apply below_alloc | apply below_drew1 | apply pw_below_drewN | refine below_step ?_ (by assumption)))⟩⟩)
  case rest =>
    obtain ⟨b4, rfl, rfl, hb4, hv4, hB⟩ := hcut
    clear hlk
    have i3' := cell_later' hB.out i3
    clear g0 i0 i1 i2 i3 i4 i5 i6 hmp
    go_wp2
    go_end0
    subst hbn
    have hBw := below_step hBa hB.out
    exact ⟨rfl, Hs.out.later hBw, Chg.of_below hBw⟩

theorem hist_hear_say (g b : Nat) (L : List (Key × News)) (M : List Int) (n : News) (w : World) (hs : HeardAt w g b L M) (hn : n.do_ ≠ 3) :
    Calls Try.prog 64 #[.pointer (some ⟨g, 0, none⟩), .agg #[.int .i64 n.do_, .int .i64 n.src, .int .i64 n.id, .int .i64 n.ver, .int .i64 n.body.at_, .int .i64 n.body.key, .int .i64 n.body.val]] w fun e w' => e = .returned (.tuple #[]) ∧ HeardAt w' g b (hearL L n) M ∧ Chg g b w w' := by
  unfold hearL
  cases ha : aget (keyOf n) L with
  | none => exact hist_hear_new g b L M n w hs hn ha
  | some x =>
    by_cases hv : x.ver < n.ver
    · simp only [if_pos hv]; exact hist_hear_more g b L M n x w hs hn ha hv
    · simp only [if_neg hv]; exact hist_hear_less g b L M n x w hs hn ha hv
/-- One of the news is heard. -/
theorem hist_hear (g b : Nat) (L : List (Key × News)) (M : List Int) (n : News) (w : World) (hs : HeardAt w g b L M) (h0 : 0 ≤ n.src) (h4 : n.src < 4) :
    Calls Try.prog 64 #[.pointer (some ⟨g, 0, none⟩), .agg #[.int .i64 n.do_, .int .i64 n.src, .int .i64 n.id, .int .i64 n.ver, .int .i64 n.body.at_, .int .i64 n.body.key, .int .i64 n.body.val]] w fun e w' => e = .returned (.tuple #[]) ∧ HeardAt w' g b (hear (L, M) n).1 (hear (L, M) n).2 ∧ Chg g b w w' := by
  unfold hear
  by_cases h : n.do_ = 3
  · rw [if_pos h]; exact hist_hear_mark g b L M n w hs h h0 h4
  · rw [if_neg h]; exact hist_hear_say g b L M n w hs h
end Go.Proofs.Ytdpkpibcjbllcaa
set_option linter.unusedVariables false
set_option linter.unusedSimpArgs false
namespace Go.Proofs.Ytdpkpibcjbllcaa
open Go.RowKit Go.Proofs.YtdpkpibcjbllcaaW.PrintWords

set_option maxRecDepth 100000 in
set_option maxHeartbeats 1000000 in
/-- All of a list are heard. -/
theorem hist_all (l : List News) (A : Option Addr) (c : Nat) (w : World) (hr : NewsRow w A l.length l) (hsrc : ∀ n ∈ l, 0 ≤ n.src ∧ n.src < 4) :
    Calls Try.prog 41 #[.slice A l.length c] w fun e w' => ∃ g b, e = .returned (.pointer (some ⟨g, 0, none⟩)) ∧ w.heap.size ≤ g ∧ w.heap.size ≤ b ∧ HeardAt w' g b (hearAll l).1 (hearAll l).2 ∧ Below w.heap.size w w' := by
  have hm : l.length ≤ 9223372036854775807 := hr.2.1
  have hmm : ∀ w : World, (Instr.makeMap 62 none).run Try.prog w = .ok (.map (some w.heap.size)) (w.alloc (.map #[] 0)) := fun w => by kernel_rfl
  have Hr := Lib.hid hr
  have Hsrc := Lib.hid hsrc
  clear hr hsrc
  go_enter Try.func41, Try.ntmps41
  go_wp2
  go_loopw [11] (fun i wr => ∃ k : Nat, k ≤ l.length ∧ i = .int .i64 k ∧ HeardAt wr (w.heap.size + 1) w.heap.size (hearAll (l.take k)).1 (hearAll (l.take k)).2 ∧ Below w.heap.size w wr) (fun i _ => l.length - (intOf i).toNat)
  case atStart =>
    refine ⟨0, Nat.zero_le _, rfl, ⟨rfl, ?_, ?_⟩, below_alloc (below_alloc (Below.refl _ _) _) _⟩
    · have h := heap_alloc_new (w.alloc (.map #[] 0)) (.cells #[.map (some w.heap.size), .int .i64 0, .int .i64 0, .int .i64 0, .int .i64 0] 65)
      rw [World.size_alloc] at h
      exact h
    · exact alloc_old (heap_alloc_new w (.map #[] 0)) _
  case round =>
    obtain ⟨k, hk, rfl, hs, hB⟩ := hrel
    by_cases hlt : k < l.length
    · obtain ⟨n, ad, hd, htk, hget, rfl, c0, c1, c2, c3, c4, c5, c6⟩ := news_at (news_later Hr.out hB) k hlt
      obtain ⟨hn0, hn4⟩ := Hsrc.out n (List.mem_of_getElem? hget)
      have Hs := Lib.hid hs
      have Htk := Lib.hid htk
      clear hs htk hd hget
      go_wp2_with (first | (go_at_call 64; refine (hist_hear _ _ _ _ n _ (Hs.out.later (below_alloc (Below.refl _ _) _)) hn0 hn4).mono ?_; rintro e w1 ⟨rfl, hs1, hch⟩))
      have hB1 : Below w.heap.size w w1 := (below_alloc hB _).trans (Chg.below (Below.refl _ _) hch (by have := hB.size; simp; omega) (Nat.le_succ _) (Nat.le_refl _))
      exact ⟨⟨k + 1, by omega, by go_num, by rw [Htk.out, hearAll_snoc]; exact hs1, hB1⟩, by simp [intOf]; omega⟩
    · have hkl : k = l.length := by omega
      rw [hkl, List.take_length] at hs
      have Hs := Lib.hid hs
      clear hs hkl
      go_wp2
      go_ret
      exact ⟨_, _, rfl, Nat.le_succ _, Nat.le_refl _, Hs.out, hB⟩

end Go.Proofs.Ytdpkpibcjbllcaa
set_option linter.unusedVariables false
set_option linter.unusedSimpArgs false
/-! Rows of structs that a call has made. -/
namespace Go.Proofs.Ytdpkpibcjbllcaa
open Go.RowKit Go.Proofs.YtdpkpibcjbllcaaW.PrintWords

/-- A slice of the call's own (made from the block number base on). -/
abbrev Own {α : Type} (d : Kd α) (e : Nat) (w : World) (base : Nat) (v : Value) (xs : List α) : Prop := Kd.R d e w base (fun _ => True) v xs
theorem own_reads' {α : Type} {d : Kd α} {e base : Nat} {w : World} {v : Value} {xs : List α} (h : Own d e w base v xs) : ∃ A c, v = .slice A xs.length c ∧ xs.length ≤ c ∧ d.C w A xs.length xs := Kd.R_reads h
theorem kEvent_mkM (w : World) (base : Nat) (ok : Nat → Prop) (x : Event) : kEvent.M w base ok x [.int .i64 x.src, .int .i64 x.id, .int .i64 x.body.at_, .int .i64 x.body.key, .int .i64 x.body.val] :=
  ⟨[_], _, rfl, rfl, [_], _, rfl, rfl, [_], _, rfl, rfl, [_], [_], rfl, rfl, rfl⟩
/-- A literal of one element. -/
theorem own_one {α : Type} (d : Kd α) (e : Nat) (W : World) (base : Nat) (hb : base ≤ W.heap.size) (x : α) (cs : List Value) (hM : ∀ w, d.M w base (fun _ => False) x cs) :
    Own d e (W.alloc (.cells cs.toArray e)) base (.slice (some ⟨W.heap.size, 0, none⟩) 1 1) [x] := by
  have hl : cs.length = d.sz := d.K_len (d.K_of_M (hM W))
  refine ⟨fun _ _ => trivial, cs, ?_, ?_⟩
  · have h2 := World.ownsRow_lit (base := base) (e := e) (size := d.sz) W cs.toArray 1 hb (by simp [maxLen]) (by simpa using hl)
    simpa using h2
  · refine ⟨by simpa using hl, fun j p hj => ?_⟩
    rcases j with _ | j
    · have : x = p := by simpa using hj
      subst this
      have e1 : (cs.drop (0 * d.sz)).take d.sz = cs := by rw [Nat.zero_mul, List.drop_zero, ← hl, List.take_length]
      rw [e1]
      exact d.M_mono (fun _ h => h.elim) (hM _)
    · simp at hj
theorem event_at {w : World} {A : Option Addr} {n : Nat} {l : List Event} (h : Kd.C kEvent w A n l) (k : Nat) (hk : k < n) :
    ∃ x ad, l.drop k = x :: l.drop (k + 1) ∧ l.take (k + 1) = l.take k ++ [x] ∧ l[k]? = some x ∧ A = some ad ∧ w.cell? (ad.add (k * 5)) = some (.int .i64 x.src) ∧
      w.cell? ⟨(ad.add (k * 5)).block, (ad.add (k * 5)).off + 1, none⟩ = some (.int .i64 x.id) ∧ w.cell? ⟨(ad.add (k * 5)).block, (ad.add (k * 5)).off + 2, none⟩ = some (.int .i64 x.body.at_) ∧
      w.cell? ⟨(ad.add (k * 5)).block, (ad.add (k * 5)).off + 3, none⟩ = some (.int .i64 x.body.key) ∧ w.cell? ⟨(ad.add (k * 5)).block, (ad.add (k * 5)).off + 4, none⟩ = some (.int .i64 x.body.val) := by
  obtain ⟨x, c, ad, h1, h2, h3, h4, h5, h6⟩ := row_at h k hk
  obtain rfl := kEvent_open h5
  have hc : ∀ j u, [Value.int .i64 x.src, .int .i64 x.id, .int .i64 x.body.at_, .int .i64 x.body.key, .int .i64 x.body.val][j]? = some u → w.cell? (ad.add (k * 5 + j)) = some u := h6
  exact ⟨x, ad, h1, h2, h3, h4, hc 0 _ rfl, by rw [← add_field _ _ 1 (by omega)]; exact hc 1 _ rfl, by rw [← add_field _ _ 2 (by omega)]; exact hc 2 _ rfl, by rw [← add_field _ _ 3 (by omega)]; exact hc 3 _ rfl, by rw [← add_field _ _ 4 (by omega)]; exact hc 4 _ rfl⟩
theorem int_at {w : World} {A : Option Addr} {n : Nat} {l : List Int} (h : Kd.C (Kd.int .i64) w A n l) (k : Nat) (hk : k < n) :
    ∃ x ad, l.drop k = x :: l.drop (k + 1) ∧ l.take (k + 1) = l.take k ++ [x] ∧ l[k]? = some x ∧ A = some ad ∧ w.cell? (ad.add k) = some (.int .i64 x) := by
  obtain ⟨x, c, ad, h1, h2, h3, h4, h5, h6⟩ := row_at h k hk
  have hc : c = [.int .i64 x] := h5
  subst hc
  have h7 := h6 0 _ rfl
  simp only [show (Kd.int .i64).sz = 1 from rfl, Nat.mul_one, Nat.add_zero] at h7
  exact ⟨x, ad, h1, h2, h3, h4, h7⟩
end Go.Proofs.Ytdpkpibcjbllcaa
set_option linter.unusedVariables false
set_option linter.unusedSimpArgs false
namespace Go.Proofs.Ytdpkpibcjbllcaa
open Go.RowKit Go.Proofs.YtdpkpibcjbllcaaW.PrintWords

/-- An event as it stands: a list of one or none. -/
def standsK (L : List (Key × News)) (k : Key) : List Event :=
  match aget k L with
  | some n => if n.do_ = 1 then [⟨k.src, k.id, n.body⟩] else []
  | none => []
def StandsPost (w : World) (xs : List Event) (e : Ending) (w' : World) : Prop := ∃ v, e = .returned v ∧ Own kEvent 49 w' w.heap.size v xs ∧ (xs = [] → v = .slice none 0 0) ∧ Below w.heap.size w w'

theorem lookupK_none {L : List (Key × News)} {k : Key} {b : Nat} {W : World} (ha : aget k L = none) (hm : W.heap[b]? = some (mapObj encKey (mapV newsVal L))) :
    (Instr.lookup 62 (.map (some b)) (.agg #[.int .i64 k.src, .int .i64 k.id]) true).run Try.prog W = .ok (.tuple #[.agg #[.int .i64 0, .int .i64 0, .int .i64 0, .int .i64 0, .int .i64 0, .int .i64 0, .int .i64 0], .bool false]) W := by
  have h : aget k (mapV newsVal L) = none := by rw [aget_mapV, ha]; rfl
  exact run_lookup_is (enc := encKey) (k := k) (z := newsVal zeroNews) keyLaw Try.underlying62 (fun w => by kernel_rfl) h hm
theorem lookupK_some {L : List (Key × News)} {k : Key} {x : News} {b : Nat} {W : World} (ha : aget k L = some x) (hm : W.heap[b]? = some (mapObj encKey (mapV newsVal L))) :
    (Instr.lookup 62 (.map (some b)) (.agg #[.int .i64 k.src, .int .i64 k.id]) true).run Try.prog W = .ok (.tuple #[.agg #[.int .i64 x.do_, .int .i64 x.src, .int .i64 x.id, .int .i64 x.ver, .int .i64 x.body.at_, .int .i64 x.body.key, .int .i64 x.body.val], .bool true]) W := by
  have h : aget k (mapV newsVal L) = some (newsVal x) := by rw [aget_mapV, ha]; rfl
  exact run_lookup_is (enc := encKey) (k := k) (z := newsVal zeroNews) keyLaw Try.underlying62 (fun w => by kernel_rfl) h hm
theorem standS_step {W1 W W' : World} {g b bn : Nat} {k : Key} {L : List (Key × News)} (h : W.cell? ⟨g, 0, none⟩ = some (.map (some b)) ∧ W.cell? ⟨bn, 0, none⟩ = some (.int .i64 k.src) ∧ W.cell? ⟨bn, 1, none⟩ = some (.int .i64 k.id) ∧ W.heap[b]? = some (mapObj encKey (mapV newsVal L)) ∧ Below W1.heap.size W1 W) (hb : Below W.heap.size W W') :
    W'.cell? ⟨g, 0, none⟩ = some (.map (some b)) ∧ W'.cell? ⟨bn, 0, none⟩ = some (.int .i64 k.src) ∧ W'.cell? ⟨bn, 1, none⟩ = some (.int .i64 k.id) ∧ W'.heap[b]? = some (mapObj encKey (mapV newsVal L)) ∧ Below W1.heap.size W1 W' := by
  obtain ⟨h0, h1, h2, h8, h9⟩ := h
  exact ⟨cell_later' hb h0, cell_later' hb h1, cell_later' hb h2, heap_later hb h8, below_step h9 hb⟩

set_option maxRecDepth 100000 in
set_option maxHeartbeats 2000000 in
theorem hist_stands_none (g b : Nat) (L : List (Key × News)) (M : List Int) (k : Key) (w : World) (hs : HeardAt w g b L M) (ha : aget k L = none) :
    Calls Try.prog 42 #[.pointer (some ⟨g, 0, none⟩), .agg #[.int .i64 k.src, .int .i64 k.id]] w (StandsPost w []) := by
  have hc0 := hs.cell
  have hgl : g < w.heap.size := World.block_lt_of_cell? w _ hs.cell
  have hmap := hs.map
  have Ha := Lib.hid ha
  clear ha hs
  go_enter Try.func42, Try.ntmps42
  go_upto_region 1 with (fail)
  have i0 : (w.alloc (.cells #[.int .i64 k.src, .int .i64 k.id] 67)).cell? ⟨w.heap.size, 0, none⟩ = some (.int .i64 k.src) := by go_simp
  have i1 : (w.alloc (.cells #[.int .i64 k.src, .int .i64 k.id] 67)).cell? ⟨w.heap.size, 1, none⟩ = some (.int .i64 k.id) := by go_simp
  have hBa : Below w.heap.size w (w.alloc (.cells #[.int .i64 k.src, .int .i64 k.id] 67)) := below_alloc (Below.refl _ _) _
  have g0 := cell_later' hBa hc0
  have hmp := heap_later hBa hmap
  have hlk : ∀ W : World, W.heap[b]? = some (mapObj encKey (mapV newsVal L)) → (Instr.lookup 62 (.map (some b)) (.agg #[.int .i64 k.src, .int .i64 k.id]) true).run Try.prog W = .ok (.tuple #[.agg #[.int .i64 0, .int .i64 0, .int .i64 0, .int .i64 0, .int .i64 0, .int .i64 0, .int .i64 0], .bool false]) W := fun W h => lookupK_none Ha.out h
  clear hmap hc0
  generalize (w.alloc (.cells #[.int .i64 k.src, .int .i64 k.id] 67)) = W1 at *
  generalize hbn : w.heap.size = bn at *
  go_cut [5, 6] (fun v5 v6 wc => ∃ b5, v5 = .pointer (some ⟨b5, 0, none⟩) ∧ v6 = .bool false ∧ Aside (Below W1.heap.size W1 wc))
  case first =>
    go_region_held3 (fun W => W.cell? ⟨g, 0, none⟩ = some (.map (some b)) ∧ W.cell? ⟨bn, 0, none⟩ = some (.int .i64 k.src) ∧ W.cell? ⟨bn, 1, none⟩ = some (.int .i64 k.id) ∧ W.heap[b]? = some (mapObj encKey (mapV newsVal L)) ∧ Below W1.heap.size W1 W)
      (first | assumption | exact standS_step (by assumption) (below_alloc (Below.refl _ _) _) | exact standS_step ⟨g0, i0, i1, hmp, Below.refl _ _⟩ (by repeat (first | exact Below.refl _ _ | apply below_alloc | apply below_drew1)))
      (fail)
    all_goals go_wp2
    all_goals go_meet
    all_goals (case rel => exact ⟨_, rfl, rfl, ⟨(by repeat (first | exact Below.refl _ _ | assumption | apply below_alloc | apply below_drew1 | apply pw_below_drewN | refine below_step ?_ (by assumption)))⟩⟩)
  case rest =>
    obtain ⟨b5, rfl, rfl, hB⟩ := hcut
    clear hlk
    go_wp2
    go_ret
    subst hbn
    exact ⟨_, rfl, Kd.R_nil _ _ _ _ _, fun _ => rfl, below_step hBa hB.out⟩
set_option maxRecDepth 100000 in
set_option maxHeartbeats 2000000 in
theorem hist_stands_some (g b : Nat) (L : List (Key × News)) (M : List Int) (k : Key) (x : News) (w : World) (hs : HeardAt w g b L M) (ha : aget k L = some x) (xs : List Event) (hxs : xs = if x.do_ = 1 then [⟨k.src, k.id, x.body⟩] else []) :
    Calls Try.prog 42 #[.pointer (some ⟨g, 0, none⟩), .agg #[.int .i64 k.src, .int .i64 k.id]] w (StandsPost w xs) := by
  have Hxs := Lib.hid hxs
  clear hxs
  have hc0 := hs.cell
  have hgl : g < w.heap.size := World.block_lt_of_cell? w _ hs.cell
  have hmap := hs.map
  have Ha := Lib.hid ha
  clear ha hs
  go_enter Try.func42, Try.ntmps42
  go_upto_region 1 with (fail)
  have i0 : (w.alloc (.cells #[.int .i64 k.src, .int .i64 k.id] 67)).cell? ⟨w.heap.size, 0, none⟩ = some (.int .i64 k.src) := by go_simp
  have i1 : (w.alloc (.cells #[.int .i64 k.src, .int .i64 k.id] 67)).cell? ⟨w.heap.size, 1, none⟩ = some (.int .i64 k.id) := by go_simp
  have hBa : Below w.heap.size w (w.alloc (.cells #[.int .i64 k.src, .int .i64 k.id] 67)) := below_alloc (Below.refl _ _) _
  have g0 := cell_later' hBa hc0
  have hmp := heap_later hBa hmap
  have hlk : ∀ W : World, W.heap[b]? = some (mapObj encKey (mapV newsVal L)) → (Instr.lookup 62 (.map (some b)) (.agg #[.int .i64 k.src, .int .i64 k.id]) true).run Try.prog W = .ok (.tuple #[.agg #[.int .i64 x.do_, .int .i64 x.src, .int .i64 x.id, .int .i64 x.ver, .int .i64 x.body.at_, .int .i64 x.body.key, .int .i64 x.body.val], .bool true]) W := fun W h => lookupK_some Ha.out h
  clear hmap hc0
  generalize (w.alloc (.cells #[.int .i64 k.src, .int .i64 k.id] 67)) = W1 at *
  generalize hbn : w.heap.size = bn at *
  go_cut [5, 6] (fun v5 v6 wc => ∃ b5, v5 = .pointer (some ⟨b5, 0, none⟩) ∧ v6 = .bool true ∧ wc.cell? ⟨b5, 0, none⟩ = some (.int .i64 x.do_) ∧ wc.cell? ⟨b5, 4, none⟩ = some (.int .i64 x.body.at_) ∧ wc.cell? ⟨b5, 5, none⟩ = some (.int .i64 x.body.key) ∧ wc.cell? ⟨b5, 6, none⟩ = some (.int .i64 x.body.val) ∧ Aside (Below W1.heap.size W1 wc))
  case first =>
    go_region_held3 (fun W => W.cell? ⟨g, 0, none⟩ = some (.map (some b)) ∧ W.cell? ⟨bn, 0, none⟩ = some (.int .i64 k.src) ∧ W.cell? ⟨bn, 1, none⟩ = some (.int .i64 k.id) ∧ W.heap[b]? = some (mapObj encKey (mapV newsVal L)) ∧ Below W1.heap.size W1 W)
      (first | assumption | exact standS_step (by assumption) (below_alloc (Below.refl _ _) _) | exact standS_step ⟨g0, i0, i1, hmp, Below.refl _ _⟩ (by repeat (first | exact Below.refl _ _ | apply below_alloc | apply below_drew1)))
      (fail)
    all_goals go_wp2
    all_goals go_meet
    all_goals (case rel => exact ⟨_, rfl, rfl, by go_simp, by go_simp, by go_simp, by go_simp, ⟨(by repeat (first | exact Below.refl _ _ | assumption | apply below_alloc | apply below_drew1 | apply pw_below_drewN | refine below_step ?_ (by assumption)))⟩⟩)
  case rest =>
    obtain ⟨b5, rfl, rfl, x0, x4, x5, x6, hB⟩ := hcut
    replace i0 := cell_later' hB.out i0
    replace i1 := cell_later' hB.out i1
    clear hlk g0 hmp
    by_cases hd : x.do_ = 1
    · have hd' : (x.do_ == 1) = true := by simpa using hd
      have Hd := Lib.hid hd
      clear hd
      go_wp2
      go_ret
      subst hbn
      have hB' := below_step hBa hB.out
      rw [Hxs.out, if_pos Hd.out]
      exact ⟨_, rfl, own_one kEvent 49 _ _ hB'.size ⟨k.src, k.id, x.body⟩ _ (fun w => kEvent_mkM w _ _ _), fun h => (by cases h), below_alloc hB' _⟩
    · have hd' : (x.do_ == 1) = false := by simpa using hd
      have Hd := Lib.hid hd
      clear hd
      go_wp2
      go_ret
      subst hbn
      rw [Hxs.out, if_neg Hd.out]
      exact ⟨_, rfl, Kd.R_nil _ _ _ _ _, fun _ => rfl, below_step hBa hB.out⟩

theorem hist_stands (g b : Nat) (L : List (Key × News)) (M : List Int) (k : Key) (w : World) (hs : HeardAt w g b L M) :
    Calls Try.prog 42 #[.pointer (some ⟨g, 0, none⟩), .agg #[.int .i64 k.src, .int .i64 k.id]] w (StandsPost w (standsK L k)) := by
  unfold standsK
  cases ha : aget k L with
  | none => exact hist_stands_none g b L M k w hs ha
  | some x => exact hist_stands_some g b L M k x w hs ha _ rfl
end Go.Proofs.Ytdpkpibcjbllcaa
