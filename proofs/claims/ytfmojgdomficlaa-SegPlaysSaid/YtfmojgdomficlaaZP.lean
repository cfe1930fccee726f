/-
  Texts of one hand, laid together: Fresh, SetK, RefOwn, RefMergedP, RefMergedW.
-/
import Derived.Test.YtfmojgdomficlaaZC
import Derived.Test.YtfmojgdomficlaaZB
import Derived.Test.YtfmojgdomficlaaZA
import Derived.Test.YtfmojgdomficlaaZJ
set_option linter.unusedVariables false
set_option linter.unusedSimpArgs false
/-! append(nil, ys...) in a drawn region: it only makes memory. -/
namespace Go.Proofs.Ytfmojgdomficlaa
open Go Go.RowKit Go.Proofs.YtfmojgdomficlaaW.PrintWords

theorem makes_fresh {P : Program} {α : Type} (d : Kd α) {Rr : α → List Value → Prop} {W : World} {o : Oper} {a : Act} (base : Nat) (hb : base ≤ W.heap.size) (s x : Operand) (t e : TypeId) (z : Value) (bytes : Nat)
    (ho : o.op = .call { callee := .builtin .append, args := #[s, x], argTypes := #[t, t] })
    (ht : P.underlying t = some (.slice e)) (hinfo : (P.info? e).map (fun i => (i.zero, i.size, i.bytes)) = some (some z, d.sz, bytes)) (hz : z.cells.size = d.sz) (hs0 : 0 < d.sz) (hb0 : 0 < bytes)
    (ys : List α) (A : Option Addr) (m c : Nat) (hs : a.eval s = .slice none 0 0) (hx : a.eval x = .slice A m c)
    (HR : ReadsRow Rr d.sz W A m ys) (hKM : ∀ x cs, Rr x cs → d.M W W.heap.size (fun _ => False) x cs) (hl : m * bytes ≤ 140737488355328) :
    makesAt P o a W (fun v1 w1 => Own d e w1 base v1 ys) := by
  have h := Kd.R_append_rows_step (P := P) (ops := #[]) (o := { o with op := .call { callee := .builtin .append, args := #[.const (.slice none 0 0), .const (.slice A m c)], argTypes := #[t, t] }, dst := some 0, guard := none }) (a := ⟨#[undef], []⟩) (Q := fun _ _ _ => False)
    (Kc := fun a' w' => ∃ v1, a'.tmps = #[v1] ∧ Own d e w' W.heap.size v1 ys ∧ Below W.heap.size W w') d W.heap.size (by simp [Region.wanted]) (.const (.slice none 0 0)) (.const (.slice A m c)) t e z bytes rfl ht hinfo hz hs0 hb0 (.slice none 0 0) [] ys A m c (fun _ => True) (fun _ => False) rfl rfl (Kd.R_nil _ _ _ _ _) HR hKM (fun _ h => h.elim) (fun _ _ => trivial) (Below.refl _ _) (Nat.le_refl _) (by simpa using hl) (fun v1 w1 r1 r2 _ _ => ⟨v1, by simp [Act.put], by simpa using r1, r2⟩)
  rw [if_pos (by simp [Region.wanted])] at h
  unfold Oper.wp at h
  unfold makesAt
  have e1 : execOp a.eval o = (do let v ← Builtin.append_ #[t, t] o.type #[.slice none 0 0, .slice A m c]; pure (.value v)) := by
    simp [execOp, ho, resolve, invoke, hs, hx, builtin]
  have e2 : execOp (⟨#[undef], []⟩ : Act).eval { o with op := .call { callee := .builtin .append, args := #[.const (.slice none 0 0), .const (.slice A m c)], argTypes := #[t, t] }, dst := some 0, guard := none } = (do let v ← Builtin.append_ #[t, t] o.type #[.slice none 0 0, .slice A m c]; pure (.value v)) := by
    simp [execOp, resolve, invoke, Act.eval, builtin]
  rw [e2] at h
  rw [e1]
  revert h
  simp only [Sem.run_bind]
  cases (Builtin.append_ #[t, t] o.type #[.slice none 0 0, .slice A m c]).run P W with
  | ok v1 w1 =>
    intro h
    obtain ⟨v2, e, h1, h2⟩ := h
    have e : v1 = v2 := by simpa [Act.put] using e
    subst e
    exact ⟨h2, Kd.R_lower h1 hb⟩
  | halt y w1 =>
    intro h
    cases y <;> exact (show False from h)
theorem fresh_below {W w' : World} (h : W.grownBy w' (Value.slice none 0 0).ownBlock) : Below W.heap.size W w' := ⟨h.os, h.tape, h.output, h.size, fun k hk => h.block k hk (by simp [Value.ownBlock])⟩
end Go.Proofs.Ytfmojgdomficlaa
set_option linter.unusedVariables false
set_option linter.unusedSimpArgs false
/-! A cell of a row of the call's own is turned, whatever the row's elements are. -/
namespace Go.Proofs.Ytfmojgdomficlaa
open Go Go.RowKit Go.Proofs.YtfmojgdomficlaaW.PrintWords

theorem reps_setK {α : Type} (d : Kd α) (cells : α → List Value) (hopen : ∀ w x cs, d.K w x cs → cs = cells x) (hmk : ∀ w base ok x, d.M w base ok x (cells x)) {w w1 : World} {base : Nat} {ok ok' : Nat → Prop} {inner : List Value} {xs : List α} (hrp : Reps (d.M w base ok) d.sz xs inner) {i : Nat} {x : α} (hx : xs[i]? = some x) (x' : α) (j : Nat) (hj : j < d.sz) (u : Value) (hu : (cells x).set j u = cells x') :
    Reps (d.M w1 base ok') d.sz (xs.set i x') (inner.set (i * d.sz + j) u) := by
  have hil := (List.getElem?_eq_some_iff.1 hx).1
  refine ⟨by rw [List.length_set, List.length_set]; exact hrp.1, fun m p hp => ?_⟩
  have hlen := hrp.1
  by_cases hmi : m = i
  · subst hmi
    have hpe : p = x' := by rw [List.getElem?_set_self hil] at hp; exact (Option.some.inj hp).symm
    subst hpe
    have hk := hopen _ _ _ (d.K_of_M (hrp.2 m x hx))
    have : ((inner.set (m * d.sz + j) u).drop (m * d.sz)).take d.sz = ((inner.drop (m * d.sz)).take d.sz).set j u := by
      rw [List.drop_set, if_neg (by omega), Nat.add_sub_cancel_left, List.take_set]
    rw [this, hk, hu]
    exact hmk _ _ _ p
  · rw [List.getElem?_set_ne (Ne.symm hmi)] at hp
    have hk := hopen _ _ _ (d.K_of_M (hrp.2 m p hp))
    have hne : ∀ q, q < d.sz → m * d.sz + q ≠ i * d.sz + j := fun q hq e => by
      rcases Nat.lt_or_gt_of_ne hmi with h | h
      · have := Nat.mul_le_mul_right d.sz (show m + 1 ≤ i from h); rw [Nat.add_mul, Nat.one_mul] at this; omega
      · have := Nat.mul_le_mul_right d.sz (show i + 1 ≤ m from h); rw [Nat.add_mul, Nat.one_mul] at this; omega
    have : ((inner.set (i * d.sz + j) u).drop (m * d.sz)).take d.sz = (inner.drop (m * d.sz)).take d.sz := by
      apply List.ext_getElem?
      intro q
      rw [List.getElem?_take, List.getElem?_take]
      split
      · rename_i hq
        rw [List.getElem?_drop, List.getElem?_drop, List.getElem?_set_ne (fun e => hne q hq e.symm)]
      · rfl
    rw [this, hk]
    exact hmk _ _ _ p
theorem own_setK {α : Type} (d : Kd α) (cells : α → List Value) (hopen : ∀ w x cs, d.K w x cs → cs = cells x) (hmk : ∀ w base ok x, d.M w base ok x (cells x)) {e : Nat} {w : World} {h0 g n cf : Nat} {xs : List α} (h : Own d e w h0 (.slice (some ⟨g, 0, none⟩) n cf) xs) {i : Nat} {x : α} (hx : xs[i]? = some x) (x' : α) (j : Nat) (hj : j < d.sz) (u : Value) (hu : (cells x).set j u = cells x') :
    Own d e (w.setCell ⟨g, i * d.sz + j, none⟩ u) h0 (.slice (some ⟨g, 0, none⟩) n cf) (xs.set i x') ∧ w.grownBy (w.setCell ⟨g, i * d.sz + j, none⟩ u) (some g) := by
  obtain ⟨_, inner, ho, hrp⟩ := h
  have hn : n = xs.length := by
    rcases ho.2 with ⟨e, _⟩ | ⟨_, _, _, e, _⟩
    · cases e
    · injection e
  subst hn
  obtain ⟨h1, h2⟩ := ho.stored (i * d.sz + j) u
  exact ⟨⟨fun _ _ => trivial, _, by rw [List.length_set]; exact h1, reps_setK d cells hopen hmk hrp hx x' j hj u hu⟩, h2⟩
/-- The cells of an element of a row of the call's own. -/
theorem own_cellsK {α : Type} (d : Kd α) (cells : α → List Value) (hopen : ∀ w x cs, d.K w x cs → cs = cells x) (hsz : ∀ x, (cells x).length = d.sz) {e : Nat} {w : World} {h0 n cf : Nat} {A : Option Addr} {xs : List α} (h : Own d e w h0 (.slice A n cf) xs) {i : Nat} {x : α} (hx : xs[i]? = some x) :
    ∃ g, A = some ⟨g, 0, none⟩ ∧ h0 ≤ g ∧ g < w.heap.size ∧ (∀ j u, (cells x)[j]? = some u → w.cell? ⟨g, i * d.sz + j, none⟩ = some u) ∧ (∀ j, w.frozen? ⟨g, j, none⟩ = false) := by
  have hil := (List.getElem?_eq_some_iff.1 hx).1
  obtain ⟨_, inner, ho, hrp⟩ := h
  have ho' : w.ownsRow h0 e d.sz (.slice A n cf) xs.length inner := ho
  obtain ⟨g, cap, he, h1, h2⟩ := ho.form (by omega)
  injection he with e1 e2 e3
  subst e1
  obtain ⟨cs, hc⟩ := own_typed ho g rfl
  have hlt := (Array.getElem?_eq_some_iff.1 hc).1
  have hk := hopen _ _ _ (d.K_of_M (hrp.2 i x hx))
  refine ⟨g, rfl, own_base ho g rfl, hlt, fun j u hj => ?_, fun j => by simp [World.frozen?, hc]⟩
  have hjl : j < d.sz := by have := (List.getElem?_eq_some_iff.1 hj).1; rw [hsz] at this; exact this
  have h3 : inner[i * d.sz + j]? = some u := by
    have h4 : ((inner.drop (i * d.sz)).take d.sz)[j]? = some u := by rw [hk]; exact hj
    rw [List.getElem?_take_of_lt hjl, List.getElem?_drop] at h4
    exact h4
  have := ho.cells (g := g) rfl (i * d.sz + j) u h3
  rwa [show (⟨g, 0, none⟩ : Addr).add (i * d.sz + j) = ⟨g, i * d.sz + j, none⟩ by simp [Addr.add]; omega] at this
end Go.Proofs.Ytfmojgdomficlaa
set_option linter.unusedVariables false
set_option linter.unusedSimpArgs false
/-! Devices of the reference: values, whose rows are the call's own; and their boxes. -/
namespace Go.Proofs.Ytfmojgdomficlaa
open Go.RowKit Go.Shelf Go.Proofs.YtfmojgdomficlaaW.PrintWords

section
variable {h0 : Nat} {w w' : World} {b : Nat} {vf vl : Value} {rs : List RF} {d : SDisk}
structure DBox (h0 : Nat) (w : World) (b : Nat) (vf vl : Value) (rs : List RF) (d : SDisk) : Prop where
  hb : h0 ≤ b
  box : Cells w b #[vf, vl] 33
  files : Own kRF 62 w h0 vf rs
  rows : RowsOwn h0 w rs d.files
  list : Own (Kd.int .i64) 3 w h0 vl d.list
theorem DBox.later (h : DBox h0 w b vf vl rs d) (hb : Below w.heap.size w w') : DBox h0 w' b vf vl rs d :=
  ⟨h.hb, h.box.later hb, Kd.R_below h.files hb, h.rows.later hb, Kd.R_below h.list hb⟩
theorem DBox.reads (h : DBox h0 w b vf vl rs d) : ∃ Af cf Al cl, vf = .slice Af d.files.length cf ∧ vl = .slice Al d.list.length cl ∧ DAt w b Af cf Al cl d := by
  obtain ⟨A, c, rfl, h1, h2⟩ := own_reads' h.files
  obtain ⟨B, e, rfl, h3, h4⟩ := own_reads' h.list
  rw [h.rows.len] at h1 h2
  refine ⟨A, c, B, e, by rw [h.rows.len], rfl, ⟨⟨rfl, h2.2.1, fun hp => ?_⟩, h4, h1, h3⟩, by have := h.box.cell 0 _ rfl; rwa [h.rows.len] at this, h.box.cell 1 _ rfl⟩
  obtain ⟨ad, e1, e2⟩ := h2.2.2 hp
  refine ⟨ad, e1, fun j f hj => ?_⟩
  have hjl : j < rs.length := by rw [h.rows.len]; exact (List.getElem?_eq_some_iff.1 hj).1
  obtain ⟨r1, r2, r3⟩ := h.rows.rel j rs[j] f (List.getElem?_eq_getElem hjl) hj
  obtain ⟨c', e3, e4, e5⟩ := e2 j rs[j] (List.getElem?_eq_getElem hjl)
  obtain rfl := kRF_open e4
  obtain ⟨A', c'', e6, e7, e8⟩ := own_reads' r3
  refine ⟨_, rfl, ?_, e5⟩
  rw [e6, r1, r2]
  exact kSFile_mk f A' c'' e7 e8
theorem DBox.cells (h : DBox h0 w b vf vl rs d) {i : Nat} {r : RF} (hr : rs[i]? = some r) : ∃ g cf, vf = .slice (some ⟨g, 0, none⟩) d.files.length cf ∧ h0 ≤ g ∧ g < w.heap.size ∧ w.cell? ⟨g, i * 3, none⟩ = some (.int .i64 r.no) ∧ w.cell? ⟨g, i * 3 + 1, none⟩ = some r.v ∧ w.cell? ⟨g, i * 3 + 2, none⟩ = some (.int .i64 r.safe) ∧ (∀ j, w.frozen? ⟨g, j, none⟩ = false) := by
  have hil := (List.getElem?_eq_some_iff.1 hr).1
  obtain ⟨_, inner, ho, hrp⟩ := h.files
  have hn := h.rows.len
  obtain ⟨g, cap, rfl, h1, h2⟩ := ho.form (by omega)
  obtain ⟨cells, hc⟩ := own_typed ho g rfl
  have hlt := (Array.getElem?_eq_some_iff.1 hc).1
  have hk := kRF_open (kRF.K_of_M (hrp.2 i r hr))
  have hcl : ∀ j u, j < 3 → [Value.int .i64 r.no, r.v, .int .i64 r.safe][j]? = some u → w.cell? ⟨g, i * 3 + j, none⟩ = some u := fun j u hj hu => by
    have h3 : inner[i * 3 + j]? = some u := by
      have h4 : ((inner.drop (i * kRF.sz)).take kRF.sz)[j]? = some u := by rw [hk]; exact hu
      rw [List.getElem?_take_of_lt (by exact hj), List.getElem?_drop] at h4
      exact h4
    have := ho.cells (g := g) rfl (i * 3 + j) u h3
    rwa [add_plain] at this
  exact ⟨g, cap, by rw [hn], own_base ho g rfl, hlt, hcl 0 _ (by omega) rfl, hcl 1 _ (by omega) rfl, hcl 2 _ (by omega) rfl, fun j => by simp [World.frozen?, hc]⟩
theorem DBox.file_ne (h : DBox h0 w b vf vl rs d) {g : Nat} (hg : vf.ownBlock = some g) : ∃ cells, w.heap[g]? = some (.cells cells 62 (0, 0)) := by
  obtain ⟨inner, ho⟩ := Kd.R_own h.files
  exact own_typed ho g hg
theorem DBox.list_ty (h : DBox h0 w b vf vl rs d) {g : Nat} (hg : vl.ownBlock = some g) : ∃ cells, w.heap[g]? = some (.cells cells 3 (0, 0)) := by
  obtain ⟨inner, ho⟩ := Kd.R_own h.list
  exact own_typed ho g hg
theorem DBox.box_ne (h : DBox h0 w b vf vl rs d) : some b ≠ vf.ownBlock ∧ some b ≠ vl.ownBlock :=
  ⟨fun e => by obtain ⟨_, hc⟩ := h.file_ne e.symm; exact ty_ne hc (show w.heap[b]? = _ from h.box) (by decide) rfl, fun e => by obtain ⟨_, hc⟩ := h.list_ty e.symm; exact ty_ne hc (show w.heap[b]? = _ from h.box) (by decide) rfl⟩
theorem DBox.put_recs (h : DBox h0 w b vf vl rs d) {i : Nat} {r : RF} {f : SFile} (hr : rs[i]? = some r) (hf : d.files[i]? = some f) {g n cf : Nat} (hvf : vf = .slice (some ⟨g, 0, none⟩) n cf)
    {w1 : World} (hg : w.grownBy w1 r.v.ownBlock) (r' : RF) (hno : r'.no = r.no) (hsf : r'.safe = r.safe) (recs : List SRec) (hown : Own kSRec 83 w1 h0 r'.v recs) (hat : r'.v.ownBlock = r.v.ownBlock ∨ ∀ k, r'.v.ownBlock = some k → w.heap.size ≤ k) :
    DBox h0 (w1.setCell ⟨g, i * 3 + 1, none⟩ r'.v) b vf vl (rs.set i r') ⟨d.files.set i ⟨f.no, recs, f.safe⟩, d.list⟩ := by
  have hil := (List.getElem?_eq_some_iff.1 hr).1
  have hfl := (List.getElem?_eq_some_iff.1 hf).1
  obtain ⟨r1, r2, r3⟩ := h.rows.rel i r f hr hf
  obtain ⟨cf0, hcf⟩ := h.file_ne (g := g) (by rw [hvf]; rfl)
  have hrt : ∀ (k : Nat), r.v.ownBlock = some k → ∃ cells, w.heap[k]? = some (.cells cells 83 (0, 0)) := fun k hk => (h.rows.typed (List.mem_of_getElem? hr) hk).2
  have keep : ∀ (k : Nat) (cells : Array Value) (e : Nat), w.heap[k]? = some (.cells cells e (0, 0)) → e ≠ 83 → w1.heap[k]? = w.heap[k]? := fun k cells e hc hne => hg.block k (Array.getElem?_eq_some_iff.1 hc).1 (fun he => by
    obtain ⟨_, hc'⟩ := hrt k he.symm
    exact ty_ne hc hc' hne rfl)
  have far : ∀ (k : Nat), k ≠ g → (w1.setCell ⟨g, i * 3 + 1, none⟩ r'.v).heap[k]? = w1.heap[k]? := fun k hk => Below.heap_setCell w1 ⟨g, i * 3 + 1, none⟩ r'.v k hk
  have hfs : Own kRF 62 w1 h0 vf rs := own_step flat_rf h.files (fun k hk => by obtain ⟨cells, hc⟩ := h.file_ne hk; exact keep k _ _ hc (by decide))
  subst hvf
  obtain ⟨hfs2, hg2⟩ := Own_set hfs hr r' 1 (by omega) r'.v (by rw [hno, hsf]; rfl)
  have hgk : ∀ (k : Nat), r'.v.ownBlock = some k → k ≠ g := fun k hk => by
    obtain ⟨_, _, hc⟩ := own_ty hown hk
    obtain ⟨_, _, hc'⟩ := own_ty hfs (k := g) rfl
    exact ty_ne hc hc' (by decide)
  have hold : ∀ (j : Nat) (s : RF), j ≠ i → rs[j]? = some s → ∀ k, s.v.ownBlock = some k → w1.heap[k]? = w.heap[k]? ∧ k ≠ g := fun j s hj hs k hk => by
    obtain ⟨_, _, hc⟩ := h.rows.typed (List.mem_of_getElem? hs) hk
    refine ⟨hg.block k (Array.getElem?_eq_some_iff.1 hc).1 (fun e => hj (h.rows.apart j i s r k hs hr hk e.symm)), ?_⟩
    exact ty_ne hc hcf (by decide)
  refine ⟨h.hb, ?_, hfs2, ⟨by simp [h.rows.len], fun j s x hs hx => ?_, fun j m s t k hs ht hk1 hk2 => ?_⟩, ?_⟩
  · have h1 : Cells w1 b #[.slice (some ⟨g, 0, none⟩) n cf, vl] 33 := (keep b _ _ h.box (by decide)).trans h.box
    exact h1.kept hg2 (fun e => by
      obtain ⟨_, _, hc'⟩ := own_ty hfs (k := g) rfl
      cases e
      exact ty_ne (show w1.heap[b]? = _ from h1) hc' (by decide) rfl)
  · by_cases hj : j = i
    · subst hj
      rw [List.getElem?_set_self hil] at hs
      rw [List.getElem?_set_self hfl] at hx
      cases hs; cases hx
      exact ⟨by rw [hno, r1], by rw [hsf, r2], own_step flat_srec hown (fun k hk => far k (hgk k hk))⟩
    · rw [List.getElem?_set_ne (Ne.symm hj)] at hs hx
      obtain ⟨s1, s2, s3⟩ := h.rows.rel j s x hs hx
      exact ⟨s1, s2, own_step flat_srec s3 (fun k hk => by obtain ⟨q1, q2⟩ := hold j s hj hs k hk; exact (far k q2).trans q1)⟩
  · have hnew : ∀ (m : Nat) (t : RF) (k : Nat), m ≠ i → rs[m]? = some t → t.v.ownBlock = some k → r'.v.ownBlock ≠ some k := fun m t k hm ht hk e => by
      obtain ⟨_, _, hc⟩ := h.rows.typed (List.mem_of_getElem? ht) hk
      have hlt := (Array.getElem?_eq_some_iff.1 hc).1
      rcases hat with ha | ha
      · rw [ha] at e
        exact hm (h.rows.apart m i t r k ht hr hk e)
      · have := ha k e
        omega
    by_cases hj : j = i
    · by_cases hm : m = i
      · rw [hj, hm]
      · subst hj
        rw [List.getElem?_set_self hil] at hs
        rw [List.getElem?_set_ne (Ne.symm hm)] at ht
        cases hs
        exact absurd hk1 (hnew m t k hm ht hk2)
    · by_cases hm : m = i
      · subst hm
        rw [List.getElem?_set_self hil] at ht
        rw [List.getElem?_set_ne (Ne.symm hj)] at hs
        cases ht
        exact absurd hk2 (hnew j s k hj hs hk1)
      · rw [List.getElem?_set_ne (Ne.symm hj)] at hs
        rw [List.getElem?_set_ne (Ne.symm hm)] at ht
        exact h.rows.apart j m s t k hs ht hk1 hk2
  · refine own_step flat_int h.list (fun k hk => ?_)
    obtain ⟨_, hc⟩ := h.list_ty hk
    exact (far k (ty_ne hc hcf (by decide))).trans (keep k _ _ hc (by decide))
theorem DBox.put_safe (h : DBox h0 w b vf vl rs d) {i : Nat} {r : RF} {f : SFile} (hr : rs[i]? = some r) (hf : d.files[i]? = some f) {g n cf : Nat} (hvf : vf = .slice (some ⟨g, 0, none⟩) n cf) (s : Int) :
    DBox h0 (w.setCell ⟨g, i * 3 + 2, none⟩ (.int .i64 s)) b vf vl (rs.set i ⟨r.no, r.A, r.n, r.c, s⟩) ⟨d.files.set i ⟨f.no, f.recs, s⟩, d.list⟩ := by
  have hil := (List.getElem?_eq_some_iff.1 hr).1
  have hfl := (List.getElem?_eq_some_iff.1 hf).1
  obtain ⟨r1, r2, r3⟩ := h.rows.rel i r f hr hf
  obtain ⟨cf0, hcf⟩ := h.file_ne (g := g) (by rw [hvf]; rfl)
  have far : ∀ (k : Nat), k ≠ g → (w.setCell ⟨g, i * 3 + 2, none⟩ (.int .i64 s)).heap[k]? = w.heap[k]? := fun k hk => Below.heap_setCell w ⟨g, i * 3 + 2, none⟩ (.int .i64 s) k hk
  have hfs := h.files
  subst hvf
  obtain ⟨hfs2, hg2⟩ := Own_set hfs hr ⟨r.no, r.A, r.n, r.c, s⟩ 2 (by omega) (.int .i64 s) rfl
  refine ⟨h.hb, (far b (ty_ne (show w.heap[b]? = _ from h.box) hcf (by decide))).trans h.box, hfs2, ⟨by simp [h.rows.len], fun j t x hs hx => ?_, fun j m t u k hs ht hk1 hk2 => ?_⟩, own_step flat_int h.list (fun k hk => by obtain ⟨_, hc⟩ := h.list_ty hk; exact far k (ty_ne hc hcf (by decide)))⟩
  · have hfar : ∀ (j : Nat) (t : RF), rs[j]? = some t → ∀ k, t.v.ownBlock = some k → (w.setCell ⟨g, i * 3 + 2, none⟩ (.int .i64 s)).heap[k]? = w.heap[k]? := fun j t ht k hk => by
      obtain ⟨_, _, hc⟩ := h.rows.typed (List.mem_of_getElem? ht) hk
      exact far k (ty_ne hc hcf (by decide))
    by_cases hj : j = i
    · subst hj
      rw [List.getElem?_set_self hil] at hs
      rw [List.getElem?_set_self hfl] at hx
      cases hs; cases hx
      exact ⟨r1, rfl, own_step flat_srec r3 (hfar j r hr)⟩
    · rw [List.getElem?_set_ne (Ne.symm hj)] at hs hx
      obtain ⟨s1, s2, s3⟩ := h.rows.rel j t x hs hx
      exact ⟨s1, s2, own_step flat_srec s3 (hfar j t hs)⟩
  · have hv : ∀ (j : Nat) (t : RF), (rs.set i ⟨r.no, r.A, r.n, r.c, s⟩)[j]? = some t → ∃ t', rs[j]? = some t' ∧ t'.v = t.v := fun j t ht => by
      by_cases hj : j = i
      · subst hj
        rw [List.getElem?_set_self hil] at ht
        cases ht
        exact ⟨r, hr, rfl⟩
      · rw [List.getElem?_set_ne (Ne.symm hj)] at ht
        exact ⟨t, ht, rfl⟩
    obtain ⟨t', a1, a2⟩ := hv j t hs
    obtain ⟨u', b1, b2⟩ := hv m u ht
    exact h.rows.apart j m t' u' k a1 b1 (a2 ▸ hk1) (b2 ▸ hk2)
theorem DBox.put_list (h : DBox h0 w b vf vl rs d) {w1 : World} (hg : w.grownBy w1 vl.ownBlock) (vl' : Value) (l : List Int) (hown : Own (Kd.int .i64) 3 w1 h0 vl' l) : DBox h0 (w1.setCell ⟨b, 1, none⟩ vl') b vf vl' rs ⟨d.files, l⟩ := by
  have keep : ∀ (k : Nat) (cells : Array Value) (e : Nat), w.heap[k]? = some (.cells cells e (0, 0)) → e ≠ 3 → w1.heap[k]? = w.heap[k]? := fun k cells e hc hne => hg.block k (Array.getElem?_eq_some_iff.1 hc).1 (fun he => by
    obtain ⟨_, hc'⟩ := h.list_ty he.symm
    exact ty_ne hc hc' hne rfl)
  have far : ∀ (k : Nat), k ≠ b → (w1.setCell ⟨b, 1, none⟩ vl').heap[k]? = w1.heap[k]? := fun k hk => Below.heap_setCell w1 ⟨b, 1, none⟩ vl' k hk
  have hbx : Cells w1 b #[vf, vl] 33 := (keep b _ _ h.box (by decide)).trans h.box
  refine ⟨h.hb, (hbx.set2 vl').2, own_step flat_rf h.files (fun k hk => ?_), h.rows.step (fun r hr k hk => ?_), own_step flat_int hown (fun k hk => ?_)⟩
  · obtain ⟨_, hc⟩ := h.file_ne hk
    exact (far k (ty_ne hc (show w.heap[b]? = _ from h.box) (by decide))).trans (keep k _ _ hc (by decide))
  · obtain ⟨_, _, hc⟩ := h.rows.typed hr hk
    exact (far k (ty_ne hc (show w.heap[b]? = _ from h.box) (by decide))).trans (keep k _ _ hc (by decide))
  · obtain ⟨_, _, hc⟩ := own_ty hown hk
    exact far k (ty_ne hc (show w1.heap[b]? = _ from hbx) (by decide))
theorem DBox.put_files (h : DBox h0 w b vf vl rs d) {w1 : World} (hg : w.grownBy w1 vf.ownBlock) (vf' : Value) (rs' : List RF) (fs : List SFile) (hown : Own kRF 62 w1 h0 vf' rs') (hrows : RowsOwn h0 w1 rs' fs) : DBox h0 (w1.setCell ⟨b, 0, none⟩ vf') b vf' vl rs' ⟨fs, d.list⟩ := by
  have keep : ∀ (k : Nat) (cells : Array Value) (e : Nat), w.heap[k]? = some (.cells cells e (0, 0)) → e ≠ 62 → w1.heap[k]? = w.heap[k]? := fun k cells e hc hne => hg.block k (Array.getElem?_eq_some_iff.1 hc).1 (fun he => by
    obtain ⟨_, hc'⟩ := h.file_ne he.symm
    exact ty_ne hc hc' hne rfl)
  have far : ∀ (k : Nat), k ≠ b → (w1.setCell ⟨b, 0, none⟩ vf').heap[k]? = w1.heap[k]? := fun k hk => Below.heap_setCell w1 ⟨b, 0, none⟩ vf' k hk
  have hbx : Cells w1 b #[vf, vl] 33 := (keep b _ _ h.box (by decide)).trans h.box
  refine ⟨h.hb, (hbx.set2 vf').1, own_step flat_rf hown (fun k hk => ?_), hrows.step (fun r hr k hk => ?_), own_step flat_int h.list (fun k hk => ?_)⟩
  · obtain ⟨_, _, hc⟩ := own_ty hown hk
    exact far k (ty_ne hc (show w1.heap[b]? = _ from hbx) (by decide))
  · obtain ⟨_, _, hc⟩ := hrows.typed hr hk
    exact far k (ty_ne hc (show w1.heap[b]? = _ from hbx) (by decide))
  · obtain ⟨_, hc⟩ := h.list_ty hk
    exact (far k (ty_ne hc (show w.heap[b]? = _ from h.box) (by decide))).trans (keep k _ _ hc (by decide))
end
def RGrew (h0 : Nat) (b : Nat) (vf vl : Value) (rs : List RF) (d : SDisk) (r : RF) (v1 : Value) (recs : List SRec) (Z : World) : Prop :=
  ∃ Y, DBox h0 Y b vf vl rs d ∧ Y.grownBy Z r.v.ownBlock ∧ Own kSRec 83 Z h0 v1 recs ∧ (v1.ownBlock = r.v.ownBlock ∨ ∀ k, v1.ownBlock = some k → Y.heap.size ≤ k)
theorem RGrew.later {h0 b : Nat} {vf vl : Value} {rs : List RF} {d : SDisk} {r : RF} {v1 : Value} {recs : List SRec} {Z Z' : World} (h : RGrew h0 b vf vl rs d r v1 recs Z) (hb : Below Z.heap.size Z Z') : RGrew h0 b vf vl rs d r v1 recs Z' := by
  obtain ⟨Y, h1, h2, h3, h4⟩ := h
  exact ⟨Y, h1, h2.trans (below_grown hb _), Kd.R_below h3 hb, h4⟩
theorem RGrew.cells {h0 b : Nat} {vl : Value} {rs : List RF} {d : SDisk} {r : RF} {v1 : Value} {recs : List SRec} {Z : World} {g n cf : Nat} (h : RGrew h0 b (.slice (some ⟨g, 0, none⟩) n cf) vl rs d r v1 recs Z) {i : Nat} (hr : rs[i]? = some r) :
    Z.cell? ⟨g, i * 3, none⟩ = some (.int .i64 r.no) ∧ Z.cell? ⟨g, i * 3 + 1, none⟩ = some r.v ∧ Z.cell? ⟨g, i * 3 + 2, none⟩ = some (.int .i64 r.safe) ∧ (∀ j, Z.frozen? ⟨g, j, none⟩ = false) := by
  obtain ⟨Y, h1, h2, h3, h4⟩ := h
  obtain ⟨g', cf', hvf, -, hgl, c0, c1, c2, cf⟩ := h1.cells hr
  injection hvf with e1
  injection e1 with e1
  injection e1 with e1
  subst e1
  have hk : Z.heap[g]? = Y.heap[g]? := h2.block g hgl (fun e => by
    obtain ⟨_, hc⟩ := h1.file_ne (g := g) rfl
    obtain ⟨_, _, hc'⟩ := h1.rows.typed (List.mem_of_getElem? hr) e.symm
    exact ty_ne hc hc' (by decide) rfl)
  exact ⟨(World.cell?_of_block (a := ⟨g, i * 3, none⟩) hk).trans c0, (World.cell?_of_block (a := ⟨g, i * 3 + 1, none⟩) hk).trans c1, (World.cell?_of_block (a := ⟨g, i * 3 + 2, none⟩) hk).trans c2, fun j => (World.frozen?_of_block (a := ⟨g, j, none⟩) hk).trans (cf j)⟩
theorem RGrew.put {h0 b : Nat} {vl : Value} {rs : List RF} {d : SDisk} {r : RF} {recs : List SRec} {Z : World} {g n cf : Nat} {A : Option Addr} {m c : Nat} (h : RGrew h0 b (.slice (some ⟨g, 0, none⟩) n cf) vl rs d r (.slice A m c) recs Z) {i : Nat} (hr : rs[i]? = some r) {f : SFile} (hf : d.files[i]? = some f) :
    DBox h0 (Z.setCell ⟨g, i * 3 + 1, none⟩ (.slice A m c)) b (.slice (some ⟨g, 0, none⟩) n cf) vl (rs.set i ⟨r.no, A, m, c, r.safe⟩) ⟨d.files.set i ⟨f.no, recs, f.safe⟩, d.list⟩ := by
  obtain ⟨Y, h1, h2, h3, h4⟩ := h
  exact h1.put_recs hr hf rfl h2 ⟨r.no, A, m, c, r.safe⟩ rfl rfl recs h3 h4
def RGrewL (h0 : Nat) (b : Nat) (vf vl : Value) (rs : List RF) (d : SDisk) (v1 : Value) (l : List Int) (Z : World) : Prop :=
  ∃ Y, DBox h0 Y b vf vl rs d ∧ Y.grownBy Z vl.ownBlock ∧ Own (Kd.int .i64) 3 Z h0 v1 l
theorem RGrewL.later {h0 b : Nat} {vf vl : Value} {rs : List RF} {d : SDisk} {v1 : Value} {l : List Int} {Z Z' : World} (h : RGrewL h0 b vf vl rs d v1 l Z) (hb : Below Z.heap.size Z Z') : RGrewL h0 b vf vl rs d v1 l Z' := by
  obtain ⟨Y, h1, h2, h3⟩ := h
  exact ⟨Y, h1, h2.trans (below_grown hb _), Kd.R_below h3 hb⟩
theorem RGrewL.box {h0 b : Nat} {vf vl : Value} {rs : List RF} {d : SDisk} {v1 : Value} {l : List Int} {Z : World} (h : RGrewL h0 b vf vl rs d v1 l Z) : Cells Z b #[vf, vl] 33 := by
  obtain ⟨Y, h1, h2, h3⟩ := h
  exact h1.box.kept h2 h1.box_ne.2
theorem RGrewL.put {h0 b : Nat} {vf vl : Value} {rs : List RF} {d : SDisk} {v1 : Value} {l : List Int} {Z : World} (h : RGrewL h0 b vf vl rs d v1 l Z) : DBox h0 (Z.setCell ⟨b, 1, none⟩ v1) b vf v1 rs ⟨d.files, l⟩ := by
  obtain ⟨Y, h1, h2, h3⟩ := h
  exact h1.put_list h2 v1 l h3
/-- A device as a value: its rows are the call's own. -/
structure DVal (h0 : Nat) (w : World) (vf vl : Value) (rs : List RF) (d : SDisk) : Prop where
  files : Own kRF 62 w h0 vf rs
  rows : RowsOwn h0 w rs d.files
  list : Own (Kd.int .i64) 3 w h0 vl d.list
theorem DBox.val {h0 : Nat} {w : World} {b : Nat} {vf vl : Value} {rs : List RF} {d : SDisk} (h : DBox h0 w b vf vl rs d) : DVal h0 w vf vl rs d := ⟨h.files, h.rows, h.list⟩
theorem DVal.box {h0 : Nat} {w : World} {b : Nat} {vf vl : Value} {rs : List RF} {d : SDisk} (h : DVal h0 w vf vl rs d) (hb : h0 ≤ b) (hc : Cells w b #[vf, vl] 33) : DBox h0 w b vf vl rs d := ⟨hb, hc, h.files, h.rows, h.list⟩
theorem DVal.later {h0 : Nat} {w w' : World} {vf vl : Value} {rs : List RF} {d : SDisk} (h : DVal h0 w vf vl rs d) (hb : Below w.heap.size w w') : DVal h0 w' vf vl rs d := ⟨Kd.R_below h.files hb, h.rows.later hb, Kd.R_below h.list hb⟩
/-- The types of a device's rows. -/
def RowTy (t : TypeId) : Prop := t = 62 ∨ t = 83 ∨ t = 3
theorem RowTy.disk : ¬ RowTy 33 := fun h => by rcases h with h | h | h <;> exact absurd h (by decide)
theorem RowTy.bool : ¬ RowTy 4 := fun h => by rcases h with h | h | h <;> exact absurd h (by decide)
theorem RowTy.mine {t : TypeId} (h : RowTy t) : Mine t := by rcases h with h | h | h; exact .inr (.inl h); exact .inr (.inr (.inl h)); exact .inr (.inr (.inr h))
theorem not_mine_disk : ¬ Mine 33 := fun h => by rcases h with h | h | h | h <;> exact absurd h (by decide)
theorem not_mine_step : ¬ Mine 58 := fun h => by rcases h with h | h | h | h <;> exact absurd h (by decide)
theorem DVal.keep {h0 : Nat} {w w' : World} {vf vl : Value} {rs : List RF} {d : SDisk} (h : DVal h0 w vf vl rs d) (hm : ∀ (k : Nat) (cs : Array Value) (t : TypeId), Cells w k cs t → RowTy t → w'.heap[k]? = w.heap[k]?) : DVal h0 w' vf vl rs d :=
  ⟨own_step flat_rf h.files (fun k hk => by obtain ⟨_, _, hc⟩ := own_ty h.files hk; exact hm k _ _ hc (.inl rfl)), h.rows.step (fun r hr k hk => by obtain ⟨_, _, hc⟩ := h.rows.typed hr hk; exact hm k _ _ hc (.inr (.inl rfl))), own_step flat_int h.list (fun k hk => by obtain ⟨_, _, hc⟩ := own_ty h.list hk; exact hm k _ _ hc (.inr (.inr rfl)))⟩
/-- A box is turned. -/
theorem DVal.set {h0 : Nat} {w : World} {vf vl : Value} {rs : List RF} {d : SDisk} (h : DVal h0 w vf vl rs d) {B : Nat} {cs : Array Value} {t : TypeId} (hc : Cells w B cs t) (ht : ¬ RowTy t) (j : Nat) (u : Value) : DVal h0 (w.setCell ⟨B, j, none⟩ u) vf vl rs d :=
  h.keep fun k cs' t' hk ht' => Below.heap_setCell w ⟨B, j, none⟩ u k (fun e => ht (by rw [show k = B from e] at hk; exact cells_ty hk hc ▸ ht'))
theorem DVal.grown {h0 : Nat} {w w' : World} {vf vl : Value} {rs : List RF} {d : SDisk} (h : DVal h0 w vf vl rs d) {row : Option Nat} (hg : w.grownBy w' row) (hc : ∀ k, row = some k → ∃ cs t, Cells w k cs t ∧ ¬ RowTy t) : DVal h0 w' vf vl rs d :=
  h.keep fun k cs t hk ht => hg.block k hk.lt fun e => by
    obtain ⟨cs', t', hc', hn⟩ := hc k e.symm
    exact hn (cells_ty hk hc' ▸ ht)
theorem DVal.reads {h0 : Nat} {w : World} {vf vl : Value} {rs : List RF} {d : SDisk} (h : DVal h0 w vf vl rs d) : ∃ Af cf Al cl, vf = .slice Af d.files.length cf ∧ vl = .slice Al d.list.length cl ∧ DRows w Af cf Al cl d := by
  obtain ⟨A, c, rfl, h1, h2⟩ := own_reads' h.files
  obtain ⟨B, e, rfl, h3, h4⟩ := own_reads' h.list
  rw [h.rows.len] at h1 h2
  refine ⟨A, c, B, e, by rw [h.rows.len], rfl, ⟨⟨rfl, h2.2.1, fun hp => ?_⟩, h4, h1, h3⟩⟩
  obtain ⟨ad, e1, e2⟩ := h2.2.2 hp
  refine ⟨ad, e1, fun j f hj => ?_⟩
  have hjl : j < rs.length := by rw [h.rows.len]; exact (List.getElem?_eq_some_iff.1 hj).1
  obtain ⟨r1, r2, r3⟩ := h.rows.rel j rs[j] f (List.getElem?_eq_getElem hjl) hj
  obtain ⟨c', e3, e4, e5⟩ := e2 j rs[j] (List.getElem?_eq_getElem hjl)
  obtain rfl := kRF_open e4
  obtain ⟨A', c'', e6, e7, e8⟩ := own_reads' r3
  refine ⟨_, rfl, ?_, e5⟩
  rw [e6, r1, r2]
  exact kSFile_mk f A' c'' e7 e8
/-- A new block is turned. -/
theorem Kp.setFresh {h0 : Nat} {w w' : World} (h : Kp h0 w w') {p : Addr} (hp : w.heap.size ≤ p.block) (hh : h0 ≤ w.heap.size) (v : Value) : Kp h0 w (w'.setCell p v) :=
  ⟨h.below.setCell (Nat.le_trans hh hp) v, fun k cs t hc hn => (Below.heap_setCell w' p v k (by have := hc.lt; omega)).trans (h.ty k cs t hc hn)⟩
theorem Kp.refl' {h0 : Nat} (w : World) (hh : h0 ≤ w.heap.size) : Kp h0 w w := Kp.of (Below.refl _ _) hh
/-- Another device's rows are grown, or its own. -/
theorem Kp.row {h0 : Nat} {w X w1 : World} (h : Kp h0 w X) (r2 : Below h0 X w1) {row : Option Nat} (r3 : X.grownBy w1 row) (hm : ∀ k, row = some k → w.heap.size ≤ k ∨ MineAt X k) : Kp h0 w w1 := by
  refine ⟨h.below.trans r2, fun k cs t hc hn => ?_⟩
  have e := h.ty k cs t hc hn
  have hcX : Cells X k cs t := e.trans hc
  refine (r3.block k hcX.lt fun hk => ?_).trans e
  rcases hm k hk.symm with hk' | ⟨cs', t', hc', hm'⟩
  · have := hc.lt; omega
  · exact hn (cells_ty hc' hcX ▸ hm')
theorem DBox.mineV {h0 : Nat} {w : World} {b : Nat} {vf vl : Value} {rs : List RF} {d : SDisk} (h : DBox h0 w b vf vl rs d) : ∀ k, vf.ownBlock = some k → MineAt w k := fun k hk => by obtain ⟨_, cs, hc⟩ := own_ty h.files hk; exact ⟨cs, _, hc, .inr (.inl rfl)⟩
theorem DBox.mineL {h0 : Nat} {w : World} {b : Nat} {vf vl : Value} {rs : List RF} {d : SDisk} (h : DBox h0 w b vf vl rs d) : ∀ k, vl.ownBlock = some k → MineAt w k := fun k hk => by obtain ⟨_, cs, hc⟩ := own_ty h.list hk; exact ⟨cs, _, hc, .inr (.inr (.inr rfl))⟩
theorem DBox.mineF {h0 : Nat} {w : World} {b g n c : Nat} {vl : Value} {rs : List RF} {d : SDisk} (h : DBox h0 w b (.slice (some ⟨g, 0, none⟩) n c) vl rs d) : MineAt w g := h.mineV g rfl
theorem RGrew.mineF {h0 b : Nat} {vl : Value} {rs : List RF} {d : SDisk} {r : RF} {v1 : Value} {recs : List SRec} {Z : World} {g n cf : Nat} (h : RGrew h0 b (.slice (some ⟨g, 0, none⟩) n cf) vl rs d r v1 recs Z) {i : Nat} (hr : rs[i]? = some r) : MineAt Z g := by
  obtain ⟨Y, h1, h2, h3, h4⟩ := h
  obtain ⟨_, hc⟩ := h1.file_ne (g := g) rfl
  refine ⟨_, _, (h2.block g (Array.getElem?_eq_some_iff.1 hc).1 (fun e => ?_)).trans hc, .inr (.inl rfl)⟩
  obtain ⟨_, _, hc'⟩ := h1.rows.typed (List.mem_of_getElem? hr) e.symm
  exact ty_ne hc hc' (by decide) rfl
/-- What a step of the reference leaves. -/
def ValPost (h0 : Nat) (d' : SDisk) (w : World) (e : Ending) (w' : World) : Prop := ∃ vf vl rs, e = .returned (.agg #[vf, vl]) ∧ DVal h0 w' vf vl rs d' ∧ Kp h0 w w'
end Go.Proofs.Ytfmojgdomficlaa
set_option linter.unusedVariables false
set_option linter.unusedSimpArgs false
/-! Merged records, as the reference has them. No program in sight. -/
namespace Go.Proofs.Ytfmojgdomficlaa

def newsAtR (l : List SRec) (b : Nat) : News := (l[b]?.getD default).news
theorem evBest_someR (l : List SRec) (k : Key) (j : Nat) (r : SRec) (hj : l[j]? = some r) (h3 : r.news.do_ ≠ 3) (hk : keyOf r.news = k) : ∀ m, j < m → m ≤ l.length → ∃ b, evBest l k m = some b
  | 0, h, _ => absurd h (by omega)
  | m + 1, h, hm => by
    simp only [evBest]
    rw [List.getElem?_eq_getElem (show m < l.length by omega)]
    simp only
    by_cases e : j = m
    · subst e
      rw [List.getElem?_eq_getElem (by omega)] at hj
      rw [Option.some.inj hj, if_pos ⟨h3, hk⟩]
      split
      · exact ⟨_, rfl⟩
      · split <;> exact ⟨_, rfl⟩
    · obtain ⟨b, hb⟩ := evBest_someR l k j r hj h3 hk m (by omega) (by omega)
      split
      · rw [hb]
        simp only
        split <;> exact ⟨_, rfl⟩
      · exact ⟨b, hb⟩
theorem mkBest_someR (l : List SRec) (s : Int) (j : Nat) (r : SRec) (hj : l[j]? = some r) (h3 : r.news.do_ = 3) (hk : r.news.src = s) : ∀ m, j < m → m ≤ l.length → ∃ b, mkBest l s m = some b
  | 0, h, _ => absurd h (by omega)
  | m + 1, h, hm => by
    simp only [mkBest]
    rw [List.getElem?_eq_getElem (show m < l.length by omega)]
    simp only
    by_cases e : j = m
    · subst e
      rw [List.getElem?_eq_getElem (by omega)] at hj
      rw [Option.some.inj hj, if_pos ⟨h3, hk⟩]
      split
      · exact ⟨_, rfl⟩
      · split <;> exact ⟨_, rfl⟩
    · obtain ⟨b, hb⟩ := mkBest_someR l s j r hj h3 hk m (by omega) (by omega)
      split
      · rw [hb]
        simp only
        split <;> exact ⟨_, rfl⟩
      · exact ⟨b, hb⟩
theorem evBest_keyR (l : List SRec) (k : Key) : ∀ m b, evBest l k m = some b → ∃ r, l[b]? = some r ∧ r.news.do_ ≠ 3 ∧ keyOf r.news = k
  | 0, b, h => by cases h
  | m + 1, b, h => by
    simp only [evBest] at h
    split at h
    · exact evBest_keyR l k m b h
    · rename_i r hr
      split at h
      · rename_i hk
        split at h
        · cases h; exact ⟨r, hr, hk⟩
        · rename_i x hx
          split at h
          · cases h; exact ⟨r, hr, hk⟩
          · cases h; exact evBest_keyR l k m _ hx
      · exact evBest_keyR l k m b h
theorem mkBest_keyR (l : List SRec) (s : Int) : ∀ m b, mkBest l s m = some b → ∃ r, l[b]? = some r ∧ r.news.do_ = 3 ∧ r.news.src = s
  | 0, b, h => by cases h
  | m + 1, b, h => by
    simp only [mkBest] at h
    split at h
    · exact mkBest_keyR l s m b h
    · rename_i r hr
      split at h
      · rename_i hk
        split at h
        · cases h; exact ⟨r, hr, hk⟩
        · rename_i x hx
          split at h
          · cases h; exact ⟨r, hr, hk⟩
          · cases h; exact mkBest_keyR l s m _ hx
      · exact mkBest_keyR l s m b h
/-- News that counts more. -/
def beatsB (a b : News) : Bool := if (a.do_ == 3) = true then (b.do_ == 3) && ((a.src == b.src) && decide (b.body.at_ < a.body.at_)) else (b.do_ != 3) && ((a.src == b.src) && ((a.id == b.id) && decide (b.ver < a.ver)))
/-- News of the same event or source that counts as much. -/
def sameB (a b : News) : Bool := if ((a.do_ == 3) != (b.do_ == 3) || (a.src != b.src)) = true then false else ((a.do_ == 3) && (a.body.at_ == b.body.at_)) || ((a.do_ != 3) && ((a.id == b.id) && (a.ver == b.ver)))
/-- The record x at j takes the record r's place, which is at i. -/
def loseB (i : Nat) (r : SRec) (j : Nat) (x : SRec) : Bool := beatsB x.news r.news || (decide (j < i) && sameB x.news r.news)
def staysR (l : List SRec) (i : Nat) (r : SRec) : Nat → Bool
  | 0 => true
  | k + 1 => match l[k]? with
    | none => staysR l i r k
    | some x => if loseB i r k x = true then false else staysR l i r k
def mergedR (l : List SRec) : Nat → List SRec
  | 0 => []
  | m + 1 => match l[m]? with
    | none => mergedR l m
    | some r => if staysR l m r l.length = true then mergedR l m ++ [r] else mergedR l m
theorem stays_iff (l : List SRec) (i : Nat) (r : SRec) : ∀ k, k ≤ l.length → (staysR l i r k = true ↔ ∀ j x, j < k → l[j]? = some x → loseB i r j x = false)
  | 0, _ => ⟨fun _ j x h => absurd h (by omega), fun _ => rfl⟩
  | k + 1, h => by
    have ih := stays_iff l i r k (by omega)
    have hg : l[k]? = some l[k] := List.getElem?_eq_getElem h
    simp only [staysR, hg]
    constructor
    · intro hs j x hj hx
      split at hs
      · cases hs
      rename_i hl
      by_cases e : j = k
      · subst e
        rw [hg] at hx
        rw [← Option.some.inj hx]
        simpa using hl
      · exact ih.1 hs j x (by omega) hx
    · intro hs
      rw [if_neg (by rw [hs k _ (by omega) hg]; simp)]
      exact ih.2 fun j x hj hx => hs j x (by omega) hx
theorem evBest_spec (l : List SRec) (k : Key) : ∀ m b, m ≤ l.length → evBest l k m = some b → b < m ∧ ∀ j x, j < m → l[j]? = some x → x.news.do_ ≠ 3 → keyOf x.news = k → (j < b → x.news.ver < (newsAtR l b).ver) ∧ (b ≤ j → x.news.ver ≤ (newsAtR l b).ver)
  | 0, b, _, h => by cases h
  | m + 1, b, hm, h => by
    have hg : l[m]? = some l[m] := List.getElem?_eq_getElem hm
    have hn : newsAtR l m = l[m].news := by simp [newsAtR, hg]
    simp only [evBest, hg] at h
    split at h
    · rename_i hk
      split at h
      · rename_i hnone
        cases h
        refine ⟨by omega, fun j x hj hx h3 hkey => ?_⟩
        by_cases e : j = m
        · subst e; rw [hg] at hx; rw [← Option.some.inj hx, hn]; exact ⟨fun h => absurd h (by omega), fun _ => Int.le_refl _⟩
        · obtain ⟨b', hb'⟩ := evBest_someR l k j x hx h3 hkey m (by omega) (by omega)
          rw [hnone] at hb'; cases hb'
      · rename_i b' hb'
        obtain ⟨i1, i2⟩ := evBest_spec l k m b' (by omega) hb'
        split at h
        · rename_i hlt
          have hlt' : (newsAtR l b').ver < l[m].news.ver := hlt
          cases h
          refine ⟨by omega, fun j x hj hx h3 hkey => ?_⟩
          by_cases e : j = m
          · subst e; rw [hg] at hx; rw [← Option.some.inj hx, hn]; exact ⟨fun h => absurd h (by omega), fun _ => Int.le_refl _⟩
          · obtain ⟨a1, a2⟩ := i2 j x (by omega) hx h3 hkey
            refine ⟨fun _ => ?_, fun h => absurd h (by omega)⟩
            rw [hn]
            rcases Nat.lt_or_ge j b' with hjb | hjb
            · have := a1 hjb; omega
            · have := a2 hjb; omega
        · rename_i hlt
          have hlt' : ¬ (newsAtR l b').ver < l[m].news.ver := hlt
          cases h
          refine ⟨by omega, fun j x hj hx h3 hkey => ?_⟩
          by_cases e : j = m
          · subst e; rw [hg] at hx; rw [← Option.some.inj hx]; exact ⟨fun h => absurd h (by omega), fun _ => by omega⟩
          · exact i2 j x (by omega) hx h3 hkey
    · rename_i hk
      obtain ⟨i1, i2⟩ := evBest_spec l k m b (by omega) h
      refine ⟨by omega, fun j x hj hx h3 hkey => ?_⟩
      by_cases e : j = m
      · subst e; rw [hg] at hx; exact absurd ⟨(Option.some.inj hx) ▸ h3, (Option.some.inj hx) ▸ hkey⟩ hk
      · exact i2 j x (by omega) hx h3 hkey
theorem mkBest_spec (l : List SRec) (s : Int) : ∀ m b, m ≤ l.length → mkBest l s m = some b → b < m ∧ ∀ j x, j < m → l[j]? = some x → x.news.do_ = 3 → x.news.src = s → (j < b → x.news.body.at_ < (newsAtR l b).body.at_) ∧ (b ≤ j → x.news.body.at_ ≤ (newsAtR l b).body.at_)
  | 0, b, _, h => by cases h
  | m + 1, b, hm, h => by
    have hg : l[m]? = some l[m] := List.getElem?_eq_getElem hm
    have hn : newsAtR l m = l[m].news := by simp [newsAtR, hg]
    simp only [mkBest, hg] at h
    split at h
    · rename_i hk
      split at h
      · rename_i hnone
        cases h
        refine ⟨by omega, fun j x hj hx h3 hkey => ?_⟩
        by_cases e : j = m
        · subst e; rw [hg] at hx; rw [← Option.some.inj hx, hn]; exact ⟨fun h => absurd h (by omega), fun _ => Int.le_refl _⟩
        · obtain ⟨b', hb'⟩ := mkBest_someR l s j x hx h3 hkey m (by omega) (by omega)
          rw [hnone] at hb'; cases hb'
      · rename_i b' hb'
        obtain ⟨i1, i2⟩ := mkBest_spec l s m b' (by omega) hb'
        split at h
        · rename_i hlt
          have hlt' : (newsAtR l b').body.at_ < l[m].news.body.at_ := hlt
          cases h
          refine ⟨by omega, fun j x hj hx h3 hkey => ?_⟩
          by_cases e : j = m
          · subst e; rw [hg] at hx; rw [← Option.some.inj hx, hn]; exact ⟨fun h => absurd h (by omega), fun _ => Int.le_refl _⟩
          · obtain ⟨a1, a2⟩ := i2 j x (by omega) hx h3 hkey
            refine ⟨fun _ => ?_, fun h => absurd h (by omega)⟩
            rw [hn]
            rcases Nat.lt_or_ge j b' with hjb | hjb
            · have := a1 hjb; omega
            · have := a2 hjb; omega
        · rename_i hlt
          have hlt' : ¬ (newsAtR l b').body.at_ < l[m].news.body.at_ := hlt
          cases h
          refine ⟨by omega, fun j x hj hx h3 hkey => ?_⟩
          by_cases e : j = m
          · subst e; rw [hg] at hx; rw [← Option.some.inj hx]; exact ⟨fun h => absurd h (by omega), fun _ => by omega⟩
          · exact i2 j x (by omega) hx h3 hkey
    · rename_i hk
      obtain ⟨i1, i2⟩ := mkBest_spec l s m b (by omega) h
      refine ⟨by omega, fun j x hj hx h3 hkey => ?_⟩
      by_cases e : j = m
      · subst e; rw [hg] at hx; exact absurd ⟨(Option.some.inj hx) ▸ h3, (Option.some.inj hx) ▸ hkey⟩ hk
      · exact i2 j x (by omega) hx h3 hkey
theorem stays_kept {l : List SRec} {m : Nat} {r : SRec} (hm : l[m]? = some r) : staysR l m r l.length = decide (keptI l r = m) := by
  have hml := (List.getElem?_eq_some_iff.1 hm).1
  have hnm : newsAtR l m = r.news := by simp [newsAtR, hm]
  rw [Bool.eq_iff_iff, decide_eq_true_iff, stays_iff l m r l.length (Nat.le_refl _)]
  unfold keptI
  by_cases h3 : r.news.do_ = 3
  · rw [if_pos h3]
    obtain ⟨b, hb⟩ := mkBest_someR l r.news.src m r hm h3 rfl l.length hml (Nat.le_refl _)
    obtain ⟨i1, i2⟩ := mkBest_spec l r.news.src l.length b (Nat.le_refl _) hb
    have hgb : l[b]? = some l[b] := List.getElem?_eq_getElem i1
    have hnb : newsAtR l b = l[b].news := by simp [newsAtR, hgb]
    obtain ⟨rb, hb1, hb3, hbs⟩ := mkBest_keyR l _ _ _ hb
    rw [hgb] at hb1
    obtain rfl := Option.some.inj hb1
    rw [hb, Option.getD_some]
    constructor
    · intro h
      have hl := h b _ i1 hgb
      rcases Nat.lt_trichotomy b m with hlt | heq | hgt
      · exfalso
        have h1 := (i2 m r hml hm h3 rfl).2 (by omega)
        rw [hnb] at h1
        simp only [loseB, beatsB, sameB, hb3, h3, hbs, hlt, decide_true, Bool.true_and, beq_self_eq_true, if_true, bne_self_eq_false, Bool.or_false, Bool.false_eq_true, if_false, Bool.or_eq_false_iff, decide_eq_false_iff_not] at hl
        have h2 : ¬ l[b].news.body.at_ = r.news.body.at_ := by
          intro e; rw [e] at hl; simp at hl
        omega
      · exact heq
      · exfalso
        have h1 := (i2 m r hml hm h3 rfl).1 hgt
        rw [hnb] at h1
        have : loseB m r b l[b] = true := by simp [loseB, beatsB, hb3, h3, hbs, h1]
        rw [this] at hl; cases hl
    · intro e j x hj hx
      subst e
      obtain rfl : r = l[b] := by rw [hgb] at hm; exact (Option.some.inj hm).symm
      simp only [loseB, Bool.or_eq_false_iff]
      by_cases hx3 : x.news.do_ = 3
      · by_cases hxs : x.news.src = l[b].news.src
        · obtain ⟨a1, a2⟩ := i2 j x hj hx hx3 hxs
          rw [hnb] at a1 a2
          have hle : ¬ l[b].news.body.at_ < x.news.body.at_ := by
            rcases Nat.lt_or_ge j b with hh | hh
            · have := a1 hh; omega
            · have := a2 hh; omega
          refine ⟨by simp [beatsB, hx3, h3, hxs, hle], ?_⟩
          by_cases hjb : j < b
          · have := a1 hjb
            simp [sameB, hx3, h3, hxs, hjb]; omega
          · simp [hjb]
        · exact ⟨by simp [beatsB, hx3, h3, hxs], by simp [sameB, hx3, h3, hxs]⟩
      · exact ⟨by simp [beatsB, hx3, h3], by simp [sameB, hx3, h3]⟩
  · rw [if_neg h3]
    obtain ⟨b, hb⟩ := evBest_someR l (keyOf r.news) m r hm h3 rfl l.length hml (Nat.le_refl _)
    obtain ⟨i1, i2⟩ := evBest_spec l (keyOf r.news) l.length b (Nat.le_refl _) hb
    have hgb : l[b]? = some l[b] := List.getElem?_eq_getElem i1
    have hnb : newsAtR l b = l[b].news := by simp [newsAtR, hgb]
    obtain ⟨rb, hb1, hb3, hbs⟩ := evBest_keyR l _ _ _ hb
    rw [hgb] at hb1
    obtain rfl := Option.some.inj hb1
    have hk1 : l[b].news.src = r.news.src := congrArg Key.src hbs
    have hk2 : l[b].news.id = r.news.id := congrArg Key.id hbs
    rw [hb, Option.getD_some]
    constructor
    · intro h
      have hl := h b _ i1 hgb
      rcases Nat.lt_trichotomy b m with hlt | heq | hgt
      · exfalso
        have h1 := (i2 m r hml hm h3 rfl).2 (by omega)
        rw [hnb] at h1
        by_cases e : l[b].news.ver = r.news.ver
        · have q1 : (l[b].news.do_ == 3) = false := by simpa using hb3
          have q2 : (r.news.do_ == 3) = false := by simpa using h3
          have : loseB m r b l[b] = true := by simp [loseB, sameB, q1, q2, hb3, h3, hk1, hk2, e, hlt]
          rw [this] at hl; cases hl
        · have h4 : r.news.ver < l[b].news.ver := by omega
          have : loseB m r b l[b] = true := by simp [loseB, beatsB, hb3, h3, hk1, hk2, h4]
          rw [this] at hl; cases hl
      · exact heq
      · exfalso
        have h1 := (i2 m r hml hm h3 rfl).1 hgt
        rw [hnb] at h1
        have : loseB m r b l[b] = true := by simp [loseB, beatsB, hb3, h3, hk1, hk2, h1]
        rw [this] at hl; cases hl
    · intro e j x hj hx
      subst e
      obtain rfl : r = l[b] := by rw [hgb] at hm; exact (Option.some.inj hm).symm
      simp only [loseB, Bool.or_eq_false_iff]
      by_cases hx3 : x.news.do_ = 3
      · exact ⟨by simp [beatsB, hx3, h3], by simp [sameB, hx3, h3]⟩
      · by_cases hxs : x.news.src = l[b].news.src
        · by_cases hxi : x.news.id = l[b].news.id
          · obtain ⟨a1, a2⟩ := i2 j x hj hx hx3 (by simp [keyOf, hxs, hxi])
            rw [hnb] at a1 a2
            have hle : ¬ l[b].news.ver < x.news.ver := by
              rcases Nat.lt_or_ge j b with hh | hh
              · have := a1 hh; omega
              · have := a2 hh; omega
            refine ⟨by simp [beatsB, hx3, h3, hxs, hxi, hle], ?_⟩
            by_cases hjb : j < b
            · have := a1 hjb
              simp [sameB, hx3, h3, hxs, hxi, hjb]; omega
            · simp [hjb]
          · exact ⟨by simp [beatsB, hx3, h3, hxi], by simp [sameB, hx3, h3, hxi]⟩
        · exact ⟨by simp [beatsB, hx3, h3, hxs], by simp [sameB, hx3, h3, hxs]⟩
theorem merged_same (l : List SRec) : ∀ m, m ≤ l.length → mergedR l m = mergedUpto l m
  | 0, _ => rfl
  | m + 1, h => by
    have hg : l[m]? = some l[m] := List.getElem?_eq_getElem h
    simp only [mergedR, mergedUpto, hg]
    rw [stays_kept hg, merged_same l m (by omega)]
    simp only [decide_eq_true_eq]
end Go.Proofs.Ytfmojgdomficlaa
set_option linter.unusedVariables false
set_option linter.unusedSimpArgs false
/-! Merged records, as the reference has them: the walks. -/
namespace Go.Proofs.Ytfmojgdomficlaa
open Go.RowKit Go.Shelf Go.Proofs.YtfmojgdomficlaaW.PrintWords

set_option maxRecDepth 100000 in
set_option maxHeartbeats 4000000 in
theorem ref_beats (a b : News) (w : World) : Calls Try.prog 107 #[.agg #[.int .i64 a.do_, .int .i64 a.src, .int .i64 a.id, .int .i64 a.ver, .int .i64 a.body.at_, .int .i64 a.body.key, .int .i64 a.body.val], .agg #[.int .i64 b.do_, .int .i64 b.src, .int .i64 b.id, .int .i64 b.ver, .int .i64 b.body.at_, .int .i64 b.body.key, .int .i64 b.body.val]] w fun e w' => e = .returned (.bool (beatsB a b)) ∧ Below w.heap.size w w' := by
  have hways : ((a.do_ == 3) = true ∧ (b.do_ == 3) = false ∧ beatsB a b = false) ∨ ((a.do_ == 3) = true ∧ (b.do_ == 3) = true ∧ (a.src == b.src) = false ∧ beatsB a b = false) ∨ ((a.do_ == 3) = true ∧ (b.do_ == 3) = true ∧ (a.src == b.src) = true ∧ beatsB a b = decide (b.body.at_ < a.body.at_)) ∨
      ((a.do_ == 3) = false ∧ (b.do_ != 3) = false ∧ beatsB a b = false) ∨ ((a.do_ == 3) = false ∧ (b.do_ != 3) = true ∧ (a.src == b.src) = false ∧ beatsB a b = false) ∨ ((a.do_ == 3) = false ∧ (b.do_ != 3) = true ∧ (a.src == b.src) = true ∧ (a.id == b.id) = false ∧ beatsB a b = false) ∨ ((a.do_ == 3) = false ∧ (b.do_ != 3) = true ∧ (a.src == b.src) = true ∧ (a.id == b.id) = true ∧ beatsB a b = decide (b.ver < a.ver)) := by
    unfold beatsB bne
    cases (a.do_ == 3) <;> cases (b.do_ == 3) <;> cases (a.src == b.src) <;> cases (a.id == b.id) <;> simp
  rcases hways with ⟨h1, h2, hb⟩ | ⟨h1, h2, h3, hb⟩ | ⟨h1, h2, h3, hb⟩ | ⟨h1, h2, hb⟩ | ⟨h1, h2, h3, hb⟩ | ⟨h1, h2, h3, h4, hb⟩ | ⟨h1, h2, h3, h4, hb⟩
  all_goals
    have Hb := Lib.hid hb
    clear hb
    go_enter Try.func107, Try.ntmps107
    go_wp2
    go_ret
    exact ⟨by rw [Hb.out]; rfl, (by repeat (first | exact Below.refl _ _ | assumption | apply below_alloc | apply below_drew1 | apply pw_below_drewN | refine below_step ?_ (by assumption)))⟩
set_option maxRecDepth 100000 in
set_option maxHeartbeats 4000000 in
theorem ref_same (a b : News) (w : World) : Calls Try.prog 108 #[.agg #[.int .i64 a.do_, .int .i64 a.src, .int .i64 a.id, .int .i64 a.ver, .int .i64 a.body.at_, .int .i64 a.body.key, .int .i64 a.body.val], .agg #[.int .i64 b.do_, .int .i64 b.src, .int .i64 b.id, .int .i64 b.ver, .int .i64 b.body.at_, .int .i64 b.body.key, .int .i64 b.body.val]] w fun e w' => e = .returned (.bool (sameB a b)) ∧ Below w.heap.size w w' := by
  have hways : ((a.do_ == 3) = true ∧ (b.do_ == 3) = false ∧ sameB a b = false) ∨ ((a.do_ == 3) = false ∧ (b.do_ == 3) = true ∧ sameB a b = false) ∨ ((a.do_ == 3) = true ∧ (b.do_ == 3) = true ∧ (a.src != b.src) = true ∧ sameB a b = false) ∨ ((a.do_ == 3) = false ∧ (b.do_ == 3) = false ∧ (a.src != b.src) = true ∧ sameB a b = false) ∨
      ((a.do_ == 3) = true ∧ (a.do_ != 3) = false ∧ (b.do_ == 3) = true ∧ (a.src != b.src) = false ∧ (a.body.at_ == b.body.at_) = false ∧ sameB a b = false) ∨ ((a.do_ == 3) = true ∧ (a.do_ != 3) = false ∧ (b.do_ == 3) = true ∧ (a.src != b.src) = false ∧ (a.body.at_ == b.body.at_) = true ∧ sameB a b = true) ∨
      ((a.do_ == 3) = false ∧ (a.do_ != 3) = true ∧ (b.do_ == 3) = false ∧ (a.src != b.src) = false ∧ (a.id == b.id) = false ∧ sameB a b = false) ∨ ((a.do_ == 3) = false ∧ (a.do_ != 3) = true ∧ (b.do_ == 3) = false ∧ (a.src != b.src) = false ∧ (a.id == b.id) = true ∧ sameB a b = (a.ver == b.ver)) := by
    unfold sameB bne
    cases (a.do_ == 3) <;> cases (b.do_ == 3) <;> cases (a.src == b.src) <;> cases (a.id == b.id) <;> cases (a.body.at_ == b.body.at_) <;> simp
  rcases hways with ⟨h1, h2, hb⟩ | ⟨h1, h2, hb⟩ | ⟨h1, h2, h3, hb⟩ | ⟨h1, h2, h3, hb⟩ | ⟨h1, h0, h2, h3, h4, hb⟩ | ⟨h1, h0, h2, h3, h4, hb⟩ | ⟨h1, h0, h2, h3, h4, hb⟩ | ⟨h1, h0, h2, h3, h4, hb⟩
  all_goals
    have Hb := Lib.hid hb
    clear hb
    go_enter Try.func108, Try.ntmps108
    go_wp2
    go_ret
    exact ⟨by rw [Hb.out]; rfl, (by repeat (first | exact Below.refl _ _ | assumption | apply below_alloc | apply below_drew1 | apply pw_below_drewN | refine below_step ?_ (by assumption)))⟩
set_option maxRecDepth 100000 in
set_option maxHeartbeats 8000000 in
theorem ref_Merged (l : List SRec) (A : Option Addr) (c : Nat) (w : World) (hr : RecRow w A l.length l) (hc : l.length ≤ c) (hl : l.length ≤ 100000) :
    Calls Try.prog 100 #[.slice A l.length c] w fun e w' => ∃ v, e = .returned v ∧ Own kSRec 83 w' w.heap.size v (mergedOf l) ∧ Below w.heap.size w w' := by
  have Hr := Lib.hid hr
  clear hr
  go_enter Try.func100, Try.ntmps100
  go_wp2
  go_loopw [3, 11] (fun o i wr => ∃ k : Nat, k ≤ l.length ∧ i = .int .i64 k ∧ Below w.heap.size w wr ∧ Hid (Own kSRec 83 wr w.heap.size o (mergedR l k))) (fun _ i _ => l.length - (intOf i).toNat)
  case atStart => exact ⟨0, Nat.zero_le _, rfl, Below.refl _ _, Lib.hid (Kd.R_nil _ _ _ _ _)⟩
  case round =>
    obtain ⟨k, hk, rfl, hB, Ho⟩ := hrel
    by_cases hlt : k < l.length
    · obtain ⟨r, ad, hdr, htk, hget, rfl, e0, e1, e2, e3, e4, e5, e6, e7⟩ := srec_at (Kd.C_below Hr.out hB) k hlt
      have Hget := Lib.hid hget
      clear hdr htk
      go_upto_region 6 with fail
      have HS := Lib.hid (Cells.new wr #[.int .i64 r.news.do_, .int .i64 r.news.src, .int .i64 r.news.id, .int .i64 r.news.ver, .int .i64 r.news.body.at_, .int .i64 r.news.body.key, .int .i64 r.news.body.val, .int .i64 r.sum] 83)
      have hbs := below_alloc (Below.refl wr.heap.size wr) (.cells #[.int .i64 r.news.do_, .int .i64 r.news.src, .int .i64 r.news.id, .int .i64 r.news.ver, .int .i64 r.news.body.at_, .int .i64 r.news.body.key, .int .i64 r.news.body.val, .int .i64 r.sum] 83)
      have Ho1 := Lib.hid (Kd.R_below Ho.out hbs)
      have HBs := Lib.hid (below_step hB hbs)
      clear Ho hB e0 e1 e2 e3 e4 e5 e6 e7 hget
      generalize wr.alloc (.cells #[.int .i64 r.news.do_, .int .i64 r.news.src, .int .i64 r.news.id, .int .i64 r.news.ver, .int .i64 r.news.body.at_, .int .i64 r.news.body.key, .int .i64 r.news.body.val, .int .i64 r.sum] 83) = ws at HS hbs Ho1 HBs ⊢
      generalize wr.heap.size = gs at HS ⊢
      clear hbs
      go_wp2
      go_loopw [6, 18] (fun st j wx => ∃ m : Nat, m ≤ l.length ∧ j = .int .i64 m ∧ st = .bool (staysR l k r m) ∧ Below ws.heap.size ws wx) (fun _ j _ => l.length - (intOf j).toNat)
      case atStart => exact ⟨0, Nat.zero_le _, rfl, rfl, Below.refl _ _⟩
      case round =>
        obtain ⟨m, hm, rfl, rfl, hBx⟩ := hrel
        by_cases hlm : m < l.length
        · obtain ⟨x, ax, hdx, htx, hgx, hax, f0, f1, f2, f3, f4, f5, f6, f7⟩ := srec_at (Kd.C_below Hr.out (below_step HBs.out hBx)) m hlm
          cases hax
          have Hst := Lib.hid (show staysR l k r (m + 1) = if loseB k r m x = true then false else staysR l k r m by simp only [staysR, hgx])
          generalize staysR l k r m = st at Hst ⊢
          clear hdx htx hgx
          go_upto_region 9 with fail
          have HX := Lib.hid (Cells.new wr #[.int .i64 x.news.do_, .int .i64 x.news.src, .int .i64 x.news.id, .int .i64 x.news.ver, .int .i64 x.news.body.at_, .int .i64 x.news.body.key, .int .i64 x.news.body.val, .int .i64 x.sum] 83)
          have hbx := below_alloc (Below.refl wr.heap.size wr) (.cells #[.int .i64 x.news.do_, .int .i64 x.news.src, .int .i64 x.news.id, .int .i64 x.news.ver, .int .i64 x.news.body.at_, .int .i64 x.news.body.key, .int .i64 x.news.body.val, .int .i64 x.sum] 83)
          have HU := Lib.hid ((HS.out.later hBx).later hbx)
          have HB2 := Lib.hid (below_step hBx hbx)
          clear hBx f0 f1 f2 f3 f4 f5 f6 f7
          generalize wr.alloc (.cells #[.int .i64 x.news.do_, .int .i64 x.news.src, .int .i64 x.news.id, .int .i64 x.news.ver, .int .i64 x.news.body.at_, .int .i64 x.news.body.key, .int .i64 x.news.body.val, .int .i64 x.sum] 83) = wy at HX hbx HU HB2 ⊢
          generalize wr.heap.size = gx at HX ⊢
          clear hbx
          have q0 := HU.out.cell 0 _ rfl
          have q1 := HU.out.cell 1 _ rfl
          have q2 := HU.out.cell 2 _ rfl
          have q3 := HU.out.cell 3 _ rfl
          have q4 := HU.out.cell 4 _ rfl
          have q5 := HU.out.cell 5 _ rfl
          have q6 := HU.out.cell 6 _ rfl
          have g0 := HX.out.cell 0 _ rfl
          have g1 := HX.out.cell 1 _ rfl
          have g2 := HX.out.cell 2 _ rfl
          have g3 := HX.out.cell 3 _ rfl
          have g4 := HX.out.cell 4 _ rfl
          have g5 := HX.out.cell 5 _ rfl
          have g6 := HX.out.cell 6 _ rfl
          have hways : (beatsB x.news r.news = true ∧ loseB k r m x = true) ∨ (beatsB x.news r.news = false ∧ (decide ((m : Int) < k) = false ∧ decide (m < k) = false) ∧ loseB k r m x = false) ∨ (beatsB x.news r.news = false ∧ (decide ((m : Int) < k) = true ∧ decide (m < k) = true) ∧ sameB x.news r.news = loseB k r m x) := by
            have : decide ((m : Int) < k) = decide (m < k) := decide_eq_decide.2 (by omega)
            rw [this]
            unfold loseB
            cases beatsB x.news r.news <;> cases decide (m < k) <;> simp
          rcases hways with ⟨h1, h2⟩ | ⟨h1, ⟨h2, h4⟩, h3⟩ | ⟨h1, ⟨h2, h4⟩, h3⟩
          · rw [h2] at Hst
            have H1 := Lib.hid h1
            clear h1 h2
            go_wp2_with (first
              | (go_at_call 107; (with_reducible refine (ref_beats x.news r.news _).mono ?_); rintro e w2 ⟨rfl, hb2⟩; rw [H1.out]))
            exact ⟨⟨m + 1, by omega, by go_num, by rw [Hst.out]; rfl, below_step HB2.out hb2⟩, by simp [intOf]; omega⟩
          · rw [h3] at Hst
            have H1 := Lib.hid h1
            clear h1 h3
            go_wp2_with (first
              | (go_at_call 107; (with_reducible refine (ref_beats x.news r.news _).mono ?_); rintro e w2 ⟨rfl, hb2⟩; rw [H1.out]))
            exact ⟨⟨m + 1, by omega, by go_num, by rw [Hst.out]; rfl, below_step HB2.out hb2⟩, by simp [intOf]; omega⟩
          · have H1 := Lib.hid h1
            have H3 := Lib.hid h3
            clear h1 h3
            cases hlo : loseB k r m x
            all_goals
              rw [hlo] at Hst
              rw [hlo] at H3
              clear hlo
              go_wp2_with (first
                | (go_at_call 107; (with_reducible refine (ref_beats x.news r.news _).mono ?_); rintro e w2 ⟨rfl, hb2⟩; rw [H1.out]; have hu2 := HU.out.later hb2; have p0 := hu2.cell 0 _ rfl; have p1 := hu2.cell 1 _ rfl; have p2 := hu2.cell 2 _ rfl; have p3 := hu2.cell 3 _ rfl; have p4 := hu2.cell 4 _ rfl; have p5 := hu2.cell 5 _ rfl; have p6 := hu2.cell 6 _ rfl; have hx2 := HX.out.later hb2; have o0 := hx2.cell 0 _ rfl; have o1 := hx2.cell 1 _ rfl; have o2 := hx2.cell 2 _ rfl; have o3 := hx2.cell 3 _ rfl; have o4 := hx2.cell 4 _ rfl; have o5 := hx2.cell 5 _ rfl; have o6 := hx2.cell 6 _ rfl)
                | (go_at_call 108; (with_reducible refine (ref_same x.news r.news _).mono ?_); rintro e w3 ⟨rfl, hb3⟩; rw [H3.out]))
              exact ⟨⟨m + 1, by omega, by go_num, by rw [Hst.out]; rfl, below_step (below_step HB2.out hb2) hb3⟩, by simp [intOf]; omega⟩
        · have hml : m = l.length := by omega
          subst hml
          have Hmg := Lib.hid (show mergedR l (k + 1) = if staysR l k r l.length = true then mergedR l k ++ [r] else mergedR l k by simp only [mergedR, Hget.out])
          have hu := HS.out.later hBx
          have Ho2 := Lib.hid (Kd.R_below Ho1.out hBx)
          have HBx := Lib.hid (below_step HBs.out hBx)
          have hml2 : (mergedR l k).length ≤ k := by rw [merged_same l k (by omega)]; exact mergedUpto_len l k
          generalize staysR l k r l.length = st at Hmg ⊢
          generalize mergedR l k = out at Hmg Ho2 hml2 ⊢
          clear Ho1 HBs hBx
          have q0 := hu.cell 0 _ rfl
          have q1 := hu.cell 1 _ rfl
          have q2 := hu.cell 2 _ rfl
          have q3 := hu.cell 3 _ rfl
          have q4 := hu.cell 4 _ rfl
          have q5 := hu.cell 5 _ rfl
          have q6 := hu.cell 6 _ rfl
          have q7 := hu.cell 7 _ rfl
          cases st
          · go_wp2
            exact ⟨⟨k + 1, by omega, by go_num, HBx.out, Lib.hid (by rw [Hmg.out]; exact Ho2.out)⟩, by simp [intOf]; omega⟩
          · go_wp2_with (at_builtin; refine Kd.R_append_rows kSRec (w0 := w) w.heap.size rfl _ _ 60 83 (.agg #[.int .i64 0, .int .i64 0, .int .i64 0, .int .i64 0, .int .i64 0, .int .i64 0, .int .i64 0, .int .i64 0]) 64 rfl (by kernel_rfl) (by kernel_rfl) rfl (by decide) (by omega) _ out [r] _ 1 1 (fun _ => True) (fun _ => False) rfl rfl (Kd.R_below Ho2.out (below_alloc (Below.refl _ _) _)) (lit_row kSRec _ _ r [.int .i64 r.news.do_, .int .i64 r.news.src, .int .i64 r.news.id, .int .i64 r.news.ver, .int .i64 r.news.body.at_, .int .i64 r.news.body.key, .int .i64 r.news.body.val, .int .i64 r.sum] 83 (Cells.new _ _ _) (kSRec_mk _ _)) (fun x cs h => by obtain rfl := kSRec_open h; exact kSRec_mkM _ _ _ x) (fun _ h => h.elim) (fun _ _ => trivial) (below_alloc HBx.out _) (below_alloc HBx.out _).size (by omega) ?_; intro v1 wy r1 r2 r3 r4)
            exact ⟨⟨k + 1, by omega, by go_num, r2, Lib.hid (by rw [Hmg.out]; exact r1)⟩, by simp [intOf]; omega⟩
    · have hkl : k = l.length := by omega
      subst hkl
      have Hq := Lib.hid (show mergedR l l.length = mergedOf l from merged_same l _ (Nat.le_refl _))
      rw [Hq.out] at Ho
      go_wp2
      go_ret
      exact ⟨_, rfl, Ho.out, hB⟩
end Go.Proofs.Ytfmojgdomficlaa
