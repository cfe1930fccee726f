/-
  Texts of one hand, laid together: Keep.
-/
import Derived.Test.YtdpkpibcjbllcaaZE
import Derived.Test.YtdpkpibcjbllcaaPRefx4
import Derived.Deep.Upon
set_option linter.unusedVariables false
set_option linter.unusedSimpArgs false
/-! Sorted lists are unique; what an append leaves; the reference's kinds. -/
namespace Go.Proofs.Ytdpkpibcjbllcaa
open Go.RowKit Go.Proofs.YtdpkpibcjbllcaaW.PrintWords

theorem sorted_one {α : Type} {r : α → α → Prop} : ∀ {l1 l2 : List α}, l1.Perm l2 → l1.Pairwise r → l2.Pairwise r → (∀ a b, a ∈ l1 → b ∈ l1 → r a b → r b a → a = b) → l1 = l2
  | [], l2, hp, _, _, _ => (List.nil_perm.1 hp).symm
  | a :: l1, [], hp, _, _, _ => by have := hp.length_eq; simp at this
  | a :: l1, b :: l2, hp, h1, h2, hu => by
    have hab : a = b := by
      have ha : a ∈ b :: l2 := hp.mem_iff.1 (List.mem_cons_self ..)
      have hb : b ∈ a :: l1 := hp.mem_iff.2 (List.mem_cons_self ..)
      rcases List.mem_cons.1 ha with e | ha'
      · exact e
      · rcases List.mem_cons.1 hb with e | hb'
        · exact e.symm
        · exact hu a b (List.mem_cons_self ..) hb ((List.pairwise_cons.1 h1).1 b hb') ((List.pairwise_cons.1 h2).1 a ha')
    subst hab
    have hp' : l1.Perm l2 := (List.perm_cons a).1 hp
    rw [sorted_one hp' (List.pairwise_cons.1 h1).2 (List.pairwise_cons.1 h2).2 (fun x y hx hy => hu x y (List.mem_cons_of_mem _ hx) (List.mem_cons_of_mem _ hy))]
theorem SortE.uniq {xs ys zs : List Event} (h : SortE xs ys) (k : SortE xs zs) (hu : ∀ a b, a ∈ xs → b ∈ xs → ltOf cmpE b a = false → ltOf cmpE a b = false → a = b) : ys = zs :=
  sorted_one (h.1.trans k.1.symm) h.2 k.2 (fun a b ha hb => hu a b (h.1.mem_iff.1 ha) (h.1.mem_iff.1 hb))
theorem SortN.uniq {xs ys zs : List News} (h : SortN xs ys) (k : SortN xs zs) (hu : ∀ a b, a ∈ xs → b ∈ xs → ltOf cmpN b a = false → ltOf cmpN a b = false → a = b) : ys = zs :=
  sorted_one (h.1.trans k.1.symm) h.2 k.2 (fun a b ha hb => hu a b (h.1.mem_iff.1 ha) (h.1.mem_iff.1 hb))

theorem C_of_reps {α : Type} {d : Kd α} {w : World} {xs : List α} {cs : List Value} {g o : Nat} (hr : Reps (d.K w) d.sz xs cs) (hm : xs.length ≤ 9223372036854775807) (hc : ∀ j, j < xs.length * d.sz → w.cell? ⟨g, o + j, none⟩ = cs[j]?) : Kd.C d w (some ⟨g, o, none⟩) xs.length xs := by
  refine ⟨rfl, hm, fun _ => ⟨⟨g, o, none⟩, rfl, fun j p hj => ?_⟩⟩
  have hjl : j < xs.length := (List.getElem?_eq_some_iff.1 hj).1
  have hK := hr.2 j p hj
  refine ⟨_, d.K_len hK, hK, fun i u hu => ?_⟩
  have hi : i < d.sz := by
    have := (List.getElem?_eq_some_iff.1 hu).1
    rw [d.K_len hK] at this
    exact this
  rw [List.getElem?_take_of_lt hi, List.getElem?_drop] at hu
  have hlt : j * d.sz + i < xs.length * d.sz := by
    have : (j + 1) * d.sz ≤ xs.length * d.sz := Nat.mul_le_mul_right _ hjl
    rw [Nat.add_mul, Nat.one_mul] at this
    omega
  have e : (⟨g, o, none⟩ : Addr).add (j * d.sz + i) = ⟨g, o + (j * d.sz + i), none⟩ := by
    cases h : j * d.sz + i <;> simp [Addr.add]
  rw [e, hc _ hlt, hu]
set_option maxRecDepth 100000 in
/-- What one more at the end leaves: the longer row, the elder one, and all below. -/
theorem append_keep {W : World} {base : Nat} {v : Value} {l : List News} {x : News} (ho : Own kNews 38 W base v l) (hbase : base ≤ W.heap.size) (hpos : 0 < l.length) (hl : (l.length + 1) * 56 ≤ 140737488355328) (ty : TypeId) :
    ∃ A1 c1 w1, (Builtin.append_ #[22, 22] ty #[v, .slice (some ⟨W.heap.size, 0, none⟩) 1 1]).run Try.prog (W.alloc (.cells #[.int .i64 x.do_, .int .i64 x.src, .int .i64 x.id, .int .i64 x.ver, .int .i64 x.body.at_, .int .i64 x.body.key, .int .i64 x.body.val] 38)) = .ok (.slice A1 (l.length + 1) c1) w1 ∧ l.length + 1 ≤ c1 ∧
      Kd.C kNews w1 A1 (l ++ [x]).length (l ++ [x]) ∧ (∀ A c, v = .slice A l.length c → Kd.C kNews w1 A l.length l) ∧ Below base W w1 ∧ W.grownBy w1 v.ownBlock := by
  obtain ⟨v1, w1, hrun, hQ, hB, hg, hat⟩ := Kd.Q_run (P := Try.prog) kNews (w0 := W) (W := W) base 22 ty 38 (.agg #[(.int .i64 0), (.int .i64 0), (.int .i64 0), (.int .i64 0), (.int .i64 0), (.int .i64 0), (.int .i64 0)]) 56 Try.underlying22 info_news rfl (by decide) (by omega) v l x [.int .i64 x.do_, .int .i64 x.src, .int .i64 x.id, .int .i64 x.ver, .int .i64 x.body.at_, .int .i64 x.body.key, .int .i64 x.body.val] (fun _ => True) (fun _ => False) (kNews_mkM _ _ _ _) (fun _ hk => hk.elim) (fun _ _ => trivial) (Kd.Q_of_R ho) (Below.refl _ _) hbase hl
  rcases own_split ho with ⟨_, rfl⟩ | ⟨g, cap, cur, inner, rfl, hg0, hb, h2, h3, h4, h5, hr⟩
  · simp at hpos
  obtain ⟨i, hi, hii⟩ := Option.map_eq_some_iff.1 info_news
  simp only [Prod.mk.injEq] at hii
  obtain ⟨hz, hsz, hby⟩ := hii
  have hgl : g < W.heap.size := (Array.getElem?_eq_some_iff.1 hb).1
  have hsz7 : kNews.sz = 7 := rfl
  have hinl : inner.length = l.length * 7 := by
    have hcl : cur.toList.length = cap * 7 := by rw [Array.length_toList, h4, hsz7]
    rw [← h5, List.length_take, hcl, hsz7]
    have : l.length * 7 ≤ cap * 7 := Nat.mul_le_mul_right _ h2
    omega
  have hbA : (W.alloc (.cells #[.int .i64 x.do_, .int .i64 x.src, .int .i64 x.id, .int .i64 x.ver, .int .i64 x.body.at_, .int .i64 x.body.key, .int .i64 x.body.val] 38)).heap[g]? = some (.cells cur 38 (0, 0)) := (heap_alloc_old W _ hgl).trans hb
  have hcell : ∀ j, j < cap * 7 → (W.alloc (.cells #[.int .i64 x.do_, .int .i64 x.src, .int .i64 x.id, .int .i64 x.ver, .int .i64 x.body.at_, .int .i64 x.body.key, .int .i64 x.body.val] 38)).cell? ⟨g, j, none⟩ = cur[j]? := by
    intro j hj
    simp [World.cell?, hbA]
  have hCame : Came (W.alloc (.cells #[.int .i64 x.do_, .int .i64 x.src, .int .i64 x.id, .int .i64 x.ver, .int .i64 x.body.at_, .int .i64 x.body.key, .int .i64 x.body.val] 38)) 7 (some ⟨g, 0, none⟩) g 0 l.length cap inner := by
    refine ⟨h2, fun _ => rfl, fun _ => by simp; omega, hinl, fun j u hu => ?_, fun j hj => ?_⟩
    · have hj : j < l.length * 7 := by rw [← hinl]; exact (List.getElem?_eq_some_iff.1 hu).1
      have hjc : j < cap * 7 := Nat.lt_of_lt_of_le hj (Nat.mul_le_mul_right _ h2)
      rw [Nat.zero_add, hcell j hjc]
      rw [← h5, hsz7, List.getElem?_take_of_lt hj, Array.getElem?_toList] at hu
      exact hu
    · have hjc : l.length * 7 + j < cap * 7 := by
        have e : cap * 7 = l.length * 7 + (cap - l.length) * 7 := by rw [← Nat.add_mul]; congr 1; omega
        omega
      rw [Nat.zero_add, hcell _ hjc]
      refine ⟨?_, by simp [World.frozen?, hbA]⟩
      rw [Array.getElem?_eq_getElem (by rw [h4, hsz7]; exact hjc)]
      rfl
  have hsrc : Src Try.prog 7 22 (.slice (some ⟨W.heap.size, 0, none⟩) 1 1) 1 [.int .i64 x.do_, .int .i64 x.src, .int .i64 x.id, .int .i64 x.ver, .int .i64 x.body.at_, .int .i64 x.body.key, .int .i64 x.body.val] (W.alloc (.cells #[.int .i64 x.do_, .int .i64 x.src, .int .i64 x.id, .int .i64 x.ver, .int .i64 x.body.at_, .int .i64 x.body.key, .int .i64 x.body.val] 38)) := by
    refine Src.ofSlice (P := Try.prog) _ (e' := 38) Try.underlying22 _ 1 1 _ rfl (fun j u hu => ?_) (fun u hu => by simp at hu; rcases hu with rfl | rfl | rfl | rfl | rfl | rfl | rfl <;> rfl)
    have h := (lit_news W x)
    obtain ⟨_, _, hC⟩ := h
    obtain ⟨ad, e, hc⟩ := hC (by omega)
    obtain rfl : (⟨W.heap.size, 0, none⟩ : Addr) = ad := Option.some.inj e
    obtain ⟨c, _, hK, hcc⟩ := hc 0 x rfl
    obtain rfl := kNews_open hK
    have := hcc j u hu
    simpa using this
  obtain ⟨v', w', hrun', hU⟩ := run_append_upon (P := Try.prog) hCame 22 22 ty i (.agg #[(.int .i64 0), (.int .i64 0), (.int .i64 0), (.int .i64 0), (.int .i64 0), (.int .i64 0), (.int .i64 0)]) 56 Try.underlying22 hi hz hsz hby rfl (Upon.start hCame) _ 1 _ hsrc (by simp only [maxLen]; omega) (by omega)
  rw [hrun] at hrun'
  injection hrun' with hv hw
  subst hv
  subst hw
  obtain ⟨g', o', cap', rfl, hle, hmx, hcells⟩ := hU.value hCame h3 (.inr (by omega))
  have e0 : l.length + (0 + 1) = l.length + 1 := by omega
  rw [e0] at hle hcells
  refine ⟨some ⟨g', o', none⟩, cap', w1, by rw [hrun, e0], hle, ?_, ?_, hB, hg⟩
  · have hr2 : Reps (kNews.K w1) kNews.sz (l ++ [x]) (inner ++ [.int .i64 x.do_, .int .i64 x.src, .int .i64 x.id, .int .i64 x.ver, .int .i64 x.body.at_, .int .i64 x.body.key, .int .i64 x.body.val]) := Reps.snoc (Reps.imp_ hr (fun _ _ h => h)) (kNews_mk w1 x) rfl
    have h7 : (l ++ [x]).length = l.length + 1 := by simp
    exact C_of_reps hr2 (by rw [h7]; simp only [maxLen] at hmx; omega) (fun j hj => hcells j (by rw [← h7]; exact hj))
  · intro A c hA
    injection hA with hA1 hA2 hA3
    subst hA1
    have hr2 : Reps (kNews.K w1) kNews.sz l inner := Reps.imp_ hr (fun _ _ h => h)
    refine C_of_reps hr2 (by simp only [maxLen] at hmx; omega) (fun j hj => ?_)
    rw [Nat.zero_add]
    have hj' : j < l.length * 7 := hj
    have e := hU.old (b' := g) (o' := j) (by simp; omega) (fun j' _ ⟨_, e'⟩ => by omega)
    rw [e]
    have hjc : j < cap * 7 := Nat.lt_of_lt_of_le hj' (Nat.mul_le_mul_right _ h2)
    rw [hcell j hjc, ← h5, hsz7, List.getElem?_take_of_lt hj', Array.getElem?_toList]

/-- A row read as one of the printed texts' own type, and back. -/
theorem C_map {α β : Type} {d : Kd α} {d' : Kd β} (f : α → β) (hsz : d.sz = d'.sz) (hK : ∀ w x c, d.K w x c → d'.K w (f x) c) {w : World} {A : Option Addr} {n : Nat} {l : List α} (h : Kd.C d w A n l) : Kd.C d' w A n (l.map f) := by
  obtain ⟨h1, h2, h3⟩ := h
  refine ⟨by rw [List.length_map]; exact h1, h2, fun hn => ?_⟩
  obtain ⟨ad, e, hc⟩ := h3 hn
  refine ⟨ad, e, fun j p hj => ?_⟩
  rw [List.getElem?_map] at hj
  cases hx : l[j]? with
  | none => rw [hx] at hj; simp at hj
  | some x =>
    rw [hx] at hj
    obtain rfl : f x = p := by simpa using hj
    obtain ⟨c, hs, hk, hcell⟩ := hc j x hx
    exact ⟨c, hs.trans hsz, hK _ _ _ hk, by rw [← hsz]; exact hcell⟩
theorem R_unmap {α β : Type} {d : Kd α} {d' : Kd β} (f : α → β) (hsz : d.sz = d'.sz) (hM : ∀ w base ok x c, d'.M w base ok (f x) c → d.M w base ok x c) {e : Nat} {w : World} {base : Nat} {ok : Nat → Prop} {v : Value} {l : List α} (h : d'.R e w base ok v (l.map f)) : d.R e w base ok v l := by
  obtain ⟨h1, inner, ho, hr⟩ := h
  rw [List.length_map, ← hsz] at ho
  refine ⟨h1, inner, ho, ?_⟩
  obtain ⟨hl, hr2⟩ := hr
  rw [List.length_map, ← hsz] at hl
  refine ⟨hl, fun j p hj => ?_⟩
  have := hr2 j (f p) (by rw [List.getElem?_map, hj]; rfl)
  rw [← hsz] at this
  exact hM _ _ _ _ _ this
def sNews (n : News) : PRef.S38 := ⟨n.do_, n.src, n.id, n.ver, ⟨n.body.at_, n.body.key, n.body.val⟩⟩
def sEvent (x : Event) : PRef.S49 := ⟨x.src, x.id, ⟨x.body.at_, x.body.key, x.body.val⟩⟩
theorem C_sNews {w : World} {A : Option Addr} {n : Nat} {l : List News} (h : Kd.C kNews w A n l) : Kd.C PRef.k38 w A n (l.map sNews) := C_map sNews rfl (fun _ _ _ h => h) h
theorem C_sEvent {w : World} {A : Option Addr} {n : Nat} {l : List Event} (h : Kd.C kEvent w A n l) : Kd.C PRef.k49 w A n (l.map sEvent) := C_map sEvent rfl (fun _ _ _ h => h) h
theorem R_sNews {e : Nat} {w : World} {base : Nat} {ok : Nat → Prop} {v : Value} {l : List News} (h : PRef.k38.R e w base ok v (l.map sNews)) : kNews.R e w base ok v l := R_unmap sNews rfl (fun _ _ _ _ _ h => h) h
theorem R_sEvent {e : Nat} {w : World} {base : Nat} {ok : Nat → Prop} {v : Value} {l : List Event} (h : PRef.k49.R e w base ok v (l.map sEvent)) : kEvent.R e w base ok v l := R_unmap sEvent rfl (fun _ _ _ _ _ h => h) h
theorem own_off {α : Type} {d : Kd α} {e base g : Nat} {w w1 : World} {v : Value} {xs : List α} (ho : Own d e w base v xs) (hg : w.grownBy w1 (some g)) (hlt : g < base) : Own d e w1 base v xs :=
  Kd.R_mono (Kd.R_step (Kd.R_bound ho) (fun k hk hl => hg.block k hl (fun e => by have := Option.some.inj e; have := hk.2.1; omega))) (fun _ _ => trivial)

theorem reps_flat {α : Type} {R : α → List Value → Prop} {sz : Nat} {enc : α → List Value} (hl : ∀ x, (enc x).length = sz) (hR : ∀ x, R x (enc x)) : ∀ xs : List α, Reps R sz xs (xs.flatMap enc)
  | [] => Reps.none _ _
  | x :: xs => by
    have ih := reps_flat hl hR xs
    refine ⟨by rw [List.flatMap_cons, List.length_append, hl, ih.1, List.length_cons, Nat.add_mul, Nat.one_mul]; omega, fun j p hj => ?_⟩
    rw [List.flatMap_cons]
    cases j with
    | zero =>
      obtain rfl : x = p := by simpa using hj
      have e : ((enc x ++ xs.flatMap enc).drop (0 * sz)).take sz = enc x := by
        rw [Nat.zero_mul, List.drop_zero, List.take_append_of_le_length (by rw [hl]; exact Nat.le_refl _), ← hl x, List.take_length]
      rw [e]
      exact hR x
    | succ j =>
      have e : (enc x ++ xs.flatMap enc).drop ((j + 1) * sz) = (xs.flatMap enc).drop (j * sz) := by
        have : (j + 1) * sz = (enc x).length + j * sz := by rw [hl, Nat.add_mul, Nat.one_mul]; omega
        rw [this, List.drop_append, List.drop_of_length_le (by omega), List.nil_append]
        congr 1
        omega
      rw [e]
      exact ih.2 j p (by simpa using hj)
theorem own_list {α : Type} (d : Kd α) (e : Nat) (enc : α → List Value) (hl : ∀ x, (enc x).length = d.sz) (hM : ∀ w base ok x, d.M w base ok x (enc x)) (W : World) (base : Nat) (hb : base ≤ W.heap.size) (xs : List α) (hm : xs.length ≤ maxLen) :
    Own d e (W.alloc (.cells (xs.flatMap enc).toArray e)) base (.slice (some ⟨W.heap.size, 0, none⟩) xs.length xs.length) xs := by
  have hr := reps_flat (R := d.M (W.alloc (.cells (xs.flatMap enc).toArray e)) base (fun k => True ∧ some k ≠ (Value.slice (some ⟨W.heap.size, 0, none⟩) xs.length xs.length).ownBlock)) hl (fun x => hM _ _ _ x) xs
  refine ⟨fun _ _ => trivial, xs.flatMap enc, ?_, hr⟩
  have h2 := World.ownsRow_lit (base := base) (e := e) (size := d.sz) W (xs.flatMap enc).toArray xs.length hb hm (by simpa using hr.1)
  simpa using h2
/-! The exported functions at the chapter's example. -/
def EP {α : Type} (d : Kd α) (t n : Nat) (xs : List α) (w : World) (e : Ending) (w' : World) : Prop := ∃ A c, e = .returned (.tuple #[.slice A n c, .int .i64 0]) ∧ Own d t w' w.heap.size (.slice A n c) xs ∧ Kd.C d w' A n xs ∧ Below w.heap.size w w'
theorem EP.mk {α : Type} {d : Kd α} {t n : Nat} {xs : List α} {w w' : World} {v : Value} (hn : xs.length = n) (hO : Own d t w' w.heap.size v xs) (hb : Below w.heap.size w w') : EP d t n xs w (.returned (.tuple #[v, .int .i64 0])) w' := by
  obtain ⟨A, c, rfl, _, hr⟩ := own_reads' hO
  subst hn
  exact ⟨A, c, rfl, hO, hr, hb⟩
theorem kn_example (w : World) : Calls Try.prog 48 #[] w fun e w' => ∃ g c, e = .returned (.slice (some ⟨g, 0, none⟩) 8 c) ∧ 8 ≤ c ∧ w.heap.size ≤ g ∧ g < w'.heap.size ∧ Own kNews 38 w' w.heap.size (.slice (some ⟨g, 0, none⟩) 8 c) exN ∧ NewsRow w' (some ⟨g, 0, none⟩) 8 exN ∧ Below w.heap.size w w' := by
  have h := PRef.afterwordlaw05_Example.calls (exN.map sNews) w rfl
  refine h.mono ?_
  rintro e w' ⟨v, rfl, hR, hb⟩
  have hO := R_sNews hR
  obtain ⟨g, c, hv, hg, hgl, _⟩ := Kd.R_form hO (by decide)
  subst hv
  obtain ⟨_, hc, hr⟩ := Kd.R_reads' hO
  exact ⟨g, c, rfl, hc, hg, hgl, hO, hr, hb⟩
theorem kn_stands (A : Option Addr) (c : Nat) (w : World) (hr : NewsRow w A 8 exN) (hc : 8 ≤ c) : Calls Try.prog 12 #[.slice A 8 c, .int .i64 2] w (EP kEvent 49 2 [⟨0, 1, ⟨10, 1, 6⟩⟩, ⟨0, 2, ⟨12, 1, 7⟩⟩] w) := by
  refine (hist_Stands exN A c 2 w hr hc).mono ?_
  rintro e w' ⟨v, ys, rfl, hO, hS, _, hb⟩
  rw [ex_formed] at *
  have h1 := hS rfl
  have h2 : SortE (outE exN) [⟨0, 1, ⟨10, 1, 6⟩⟩, ⟨0, 2, ⟨12, 1, 7⟩⟩] := by
    rw [ex_out]
    exact ⟨List.Perm.refl _, by decide⟩
  have hu : ∀ a ∈ outE exN, ∀ b ∈ outE exN, ltOf cmpE b a = false → ltOf cmpE a b = false → a = b := by rw [ex_out]; decide
  rw [h1.uniq h2 (fun a b ha hb => hu a ha b hb)] at hO
  exact EP.mk rfl hO hb
theorem kn_marks (A : Option Addr) (c : Nat) (w : World) (hr : NewsRow w A 8 exN) (hc : 8 ≤ c) : Calls Try.prog 14 #[.slice A 8 c, .int .i64 2] w (EP (Kd.int .i64) 3 2 [11, 5] w) := by
  refine (hist_Marks exN A c 2 w hr hc).mono ?_
  rintro e w' ⟨v, rfl, hO, hb⟩
  rw [ex_formed, ex_marks] at *
  exact EP.mk rfl hO hb
theorem kn_late (A : Option Addr) (c : Nat) (w : World) (hr : NewsRow w A 8 exN) (hc : 8 ≤ c) : Calls Try.prog 24 #[.slice A 8 c, .int .i64 2] w (EP (Kd.int .i64) 3 1 [4] w) := by
  refine (hist_Late exN A c 2 w hr hc).mono ?_
  rintro e w' ⟨v, rfl, hO, hb⟩
  rw [ex_formed, ex_late] at *
  exact EP.mk rfl hO hb
def exL : List News := [sayN 0 1 2 10 1 6, sayN 0 2 1 12 1 7, ⟨3, 0, 0, 0, ⟨11, 0, 0⟩⟩, ⟨2, 1, 1, 3, ⟨0, 0, 0⟩⟩, ⟨3, 1, 0, 0, ⟨5, 0, 0⟩⟩]
theorem kn_least (A : Option Addr) (c : Nat) (w : World) (hr : NewsRow w A 8 exN) (hc : 8 ≤ c) : Calls Try.prog 21 #[.slice A 8 c, .int .i64 2] w (EP kNews 38 5 exL w) := by
  refine (hist_Least exN A c 2 w hr hc).mono ?_
  rintro e w' ⟨v, ys, rfl, hO, hS, _, hb⟩
  rw [ex_formed] at *
  have h1 := hS rfl
  have h2 : SortN (leastL (hearAll exN)) exL := by
    rw [ex_least]
    refine ⟨?_, by decide⟩
    decide
  have hu : ∀ a ∈ leastL (hearAll exN), ∀ b ∈ leastL (hearAll exN), ltOf cmpN b a = false → ltOf cmpN a b = false → a = b := by rw [ex_least]; decide
  rw [h1.uniq h2 (fun a b ha hb => hu a ha b hb)] at hO
  exact EP.mk rfl hO hb
theorem kn_step (A : Option Addr) (c : Nat) (w : World) (hr : NewsRow w A 4 (exN.take 4)) (hc : 4 ≤ c) : Calls Try.prog 19 #[.slice A 4 c, .int .i64 2, .agg #[.int .i64 1, .int .i64 0, .int .i64 1, .int .i64 2, .int .i64 10, .int .i64 1, .int .i64 6]] w fun e w' =>
    ∃ A1 c1 A2 c2, e = .returned (.tuple #[.slice A1 1 c1, .slice A2 1 c2, .int .i64 0]) ∧ Own kEvent 49 w' w.heap.size (.slice A1 1 c1) [⟨0, 1, ⟨10, 1, 5⟩⟩] ∧ Own kEvent 49 w' w.heap.size (.slice A2 1 c2) [⟨0, 1, ⟨10, 1, 6⟩⟩] ∧ Below w.heap.size w w' := by
  refine (hist_Step (exN.take 4) A c 2 (sayN 0 1 2 10 1 6) w hr hc (by decide)).mono ?_
  rintro e w' ⟨v1, v2, rfl, h1, h2, hb⟩
  rw [ex_formed5, ex_step] at *
  obtain ⟨A1, c1, rfl, _, _⟩ := own_reads' h1
  obtain ⟨A2, c2, rfl, _, _⟩ := own_reads' h2
  exact ⟨A1, c1, A2, c2, rfl, h1, h2, hb⟩
theorem kn_clash (A : Option Addr) (c : Nat) (w : World) (hr : NewsRow w A 8 exN) (hc : 8 ≤ c) : Calls Try.prog 31 #[.slice A 8 c, .int .i64 2] w fun e w' => e = .returned (.tuple #[.int .i64 0, .int .i64 0, .int .i64 5]) ∧ Below w.heap.size w w' := by
  refine (hist_Clash exN A c 2 w hr hc).mono ?_
  rintro e w' ⟨rfl, hb⟩
  rw [ex_clash]
  exact ⟨rfl, hb⟩
theorem kn_clash2 (A : Option Addr) (c : Nat) (w : World) (hr : NewsRow w A 9 (exN ++ [sayN 1 1 3 4 1 2])) (hc : 9 ≤ c) : Calls Try.prog 31 #[.slice A 9 c, .int .i64 2] w fun e w' => e = .returned (.tuple #[.int .i64 5, .int .i64 8, .int .i64 0]) ∧ Below w.heap.size w w' := by
  refine (hist_Clash (exN ++ [sayN 1 1 3 4 1 2]) A c 2 w hr hc).mono ?_
  rintro e w' ⟨rfl, hb⟩
  rw [ex_clash2]
  exact ⟨rfl, hb⟩
theorem kn_say (w : World) : Calls Try.prog 49 #[.int .i64 1, .int .i64 1, .int .i64 3, .int .i64 4, .int .i64 1, .int .i64 2] w fun e w' => e = .returned (.agg #[.int .i64 1, .int .i64 1, .int .i64 1, .int .i64 3, .int .i64 4, .int .i64 1, .int .i64 2]) ∧ Below w.heap.size w w' := by
  have h := PRef.afterwordlaw05_say.calls 1 1 3 4 1 2 1 1 1 3 4 1 2 w rfl
  exact h
theorem kn_same_events (A B : Option Addr) (c1 c2 : Nat) (w : World) (h1 : Kd.C kEvent w A 2 [⟨0, 1, ⟨10, 1, 6⟩⟩, ⟨0, 2, ⟨12, 1, 7⟩⟩]) (h2 : Kd.C kEvent w B 2 [⟨0, 1, ⟨10, 1, 6⟩⟩, ⟨0, 2, ⟨12, 1, 7⟩⟩]) :
    Calls Try.prog 16 #[.slice A 2 c1, .slice B 2 c2] w fun e w' => e = .returned (.bool true) ∧ Below w.heap.size w w' := by
  refine (same_events _ _ A B c1 c2 w h1 h2).mono ?_
  rintro e w' ⟨rfl, hb⟩
  exact ⟨rfl, hb⟩
theorem kn_same_news (A B : Option Addr) (c1 c2 : Nat) (w : World) (h1 : Kd.C kNews w A 5 exL) (h2 : Kd.C kNews w B 5 exL) :
    Calls Try.prog 23 #[.slice A 5 c1, .slice B 5 c2] w fun e w' => e = .returned (.bool true) ∧ Below w.heap.size w w' := by
  refine (same_news _ _ A B c1 c2 w h1 h2).mono ?_
  rintro e w' ⟨rfl, hb⟩
  exact ⟨rfl, hb⟩
theorem own_ints {e base g n c : Nat} {w : World} {xs : List Int} (h : Own (Kd.int .i64) e w base (.slice (some ⟨g, 0, none⟩) n c) xs) (j : Nat) (x : Int) (hx : xs[j]? = some x) : w.cell? ⟨g, j, none⟩ = some (.int .i64 x) := by
  obtain ⟨hn, _, hr⟩ := Kd.R_reads' h
  obtain ⟨y, ad, _, _, hy, e1, hc⟩ := int_at hr j (List.getElem?_eq_some_iff.1 hx).1
  obtain rfl : x = y := Option.some.inj (hx.symm.trans hy)
  obtain rfl : (⟨g, 0, none⟩ : Addr) = ad := Option.some.inj e1
  have ha : (⟨g, 0, none⟩ : Addr).add j = ⟨g, j, none⟩ := by cases j <;> simp [Addr.add]
  rw [ha] at hc
  exact hc
theorem own_val {e base g n c : Nat} {w : World} {x : Event} (h : Own kEvent e w base (.slice (some ⟨g, 0, none⟩) n c) [x]) : w.cell? ⟨g, 4, none⟩ = some (.int .i64 x.body.val) := by
  obtain ⟨hn, _, hr⟩ := Kd.R_reads' h
  obtain ⟨y, ad, _, _, hy, e1, _, _, _, _, hc⟩ := event_at hr 0 (by simp)
  obtain rfl : x = y := by simpa using hy
  obtain rfl : (⟨g, 0, none⟩ : Addr) = ad := Option.some.inj e1
  simpa [Addr.add] using hc
theorem own_at0 {α : Type} {d : Kd α} {e base n c : Nat} {w : World} {A : Option Addr} {xs : List α} (h : Own d e w base (.slice A n c) xs) (hp : 0 < xs.length) : ∃ g, A = some ⟨g, 0, none⟩ := by
  obtain ⟨g, cap, hv, _⟩ := Kd.R_form h hp
  injection hv with e1
  exact ⟨g, e1⟩
theorem lit_exL (W : World) : Kd.C kNews (W.alloc (.cells #[.int .i64 1, .int .i64 0, .int .i64 1, .int .i64 2, .int .i64 10, .int .i64 1, .int .i64 6, .int .i64 1, .int .i64 0, .int .i64 2, .int .i64 1, .int .i64 12, .int .i64 1, .int .i64 7, .int .i64 3, .int .i64 0, .int .i64 0, .int .i64 0, .int .i64 11, .int .i64 0, .int .i64 0, .int .i64 2, .int .i64 1, .int .i64 1, .int .i64 3, .int .i64 0, .int .i64 0, .int .i64 0, .int .i64 3, .int .i64 1, .int .i64 0, .int .i64 0, .int .i64 5, .int .i64 0, .int .i64 0] 38)) (some ⟨W.heap.size, 0, none⟩) 5 exL :=
  (Kd.R_reads' (own_list kNews 38 encN (fun _ => rfl) (fun w base ok x => kNews_mkM w base ok x) W 0 (Nat.zero_le _) exL (by simp [maxLen, exL]))).2.2
end Go.Proofs.Ytdpkpibcjbllcaa
