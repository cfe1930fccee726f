/-
  Texts of one hand, laid together: SegDoC, SegDo, SegFits, SegStep, SegPlay.
-/
import Derived.Test.YtfmojgdomficlaaZG
import Derived.Defers
import Derived.Recover
set_option linter.unusedVariables false
set_option linter.unusedSimpArgs false
/-! The closure that a step defers. -/
namespace Go.Proofs.Ytfmojgdomficlaa
open Go.RowKit Go.Shelf Go.Proofs.YtfmojgdomficlaaW.PrintWords

theorem Kp.setNew {h0 : Nat} {w w' : World} (h : Kp h0 w w') {p : Addr} (hp : h0 ≤ p.block) (hn : w.heap.size ≤ p.block) (v : Value) : Kp h0 w (w'.setCell p v) :=
  ⟨h.below.setCell hp v, fun k cs t hc hm => (Below.heap_setCell w' p v k (by have := hc.lt; omega)).trans (h.ty k cs t hc hm)⟩
theorem DOwn.setOther {h0 : Nat} {w : World} {b : Nat} {vf vl : Value} {rs : List RF} {d : SDisk} (h : DOwn h0 w b vf vl rs d) {p : Addr} {cs : Array Value} {t : TypeId} (hc : Cells w p.block cs t) (hn : ¬ Mine t) (v : Value) : DOwn h0 (w.setCell p v) b vf vl rs d :=
  have st : ∀ (k : Nat) (cells : Array Value) (e : Nat), w.heap[k]? = some (.cells cells e (0, 0)) → Mine e → (w.setCell p v).heap[k]? = w.heap[k]? := fun k cells e hk hm => Below.heap_setCell w p v k (fun e' => by
    subst e'
    exact hn (cells_ty hk hc ▸ hm))
  ⟨h.hb, (st b _ _ h.box (.inl rfl)).trans h.box, own_step flat_rf h.files (fun k hk => by obtain ⟨_, _, hc⟩ := own_ty h.files hk; exact st k _ _ hc (.inr (.inl rfl))), h.rows.step (fun r hr k hk => by obtain ⟨_, _, hc⟩ := h.rows.typed hr hk; exact st k _ _ hc (.inr (.inr (.inl rfl)))), own_step flat_int h.list (fun k hk => by obtain ⟨_, _, hc⟩ := own_ty h.list hk; exact st k _ _ hc (.inr (.inr (.inr rfl))))⟩
theorem bool_other : ¬ Mine 4 := by unfold Mine; decide
set_option maxRecDepth 100000 in
set_option maxHeartbeats 2000000 in
theorem seg_do1_idle (p0 p1 : Value) (w : World) :
    CallsD Try.prog 73 #[p0, p1] .returning w fun e u' w' => e = .returned (.tuple #[]) ∧ u' = .returning ∧ w' = w := by
  refine callsD_of_wpS Try.func73 rfl fun c₀ cs hu => ?_
  apply wpS_seq
  apply wpS_region
  simp [wpOpsS, go_sem, recoverD, hu, Try.ntmps73, Exit.thenS]
  refine wpS_of_wp ?_
  go_wp2
  cases c₀
  simp_all [bodyPostS, results, Try.results73]
set_option maxRecDepth 100000 in
set_option maxHeartbeats 2000000 in
theorem seg_do1_panic (d : SDisk) (h0 : Nat) (b : Nat) (vf vl : Value) (rs : List RF) (i PD BD : Nat) (x : Bool) (w : World) (hd : DOwn h0 w b vf vl rs d) (ho : OpenOk d i) (hs0 : 0 ≤ (fileAt d i).safe) (hs1 : (fileAt d i).safe ≤ (fileAt d i).recs.length) (hl : (fileAt d i).recs.length ≤ 100000) (hh : h0 ≤ w.heap.size)
    (hp : w.cell? ⟨PD, 0, none⟩ = some (.pointer (some ⟨b, 0, none⟩))) (hb : Cells w BD #[.bool x] 4) :
    CallsD Try.prog 73 #[.pointer (some ⟨PD, 0, none⟩), .pointer (some ⟨BD, 0, none⟩)] (.panicking [{ v := .iface 109 (.agg #[]), recovered := false }]) w fun e u' w' =>
      e = .returned (.tuple #[]) ∧ u' = .panicking [{ v := .iface 109 (.agg #[]), recovered := true }] ∧ ∃ vf vl rs w1, DOwn h0 w1 b vf vl rs (crashD d i 0 false) ∧ Kp h0 w w1 ∧ w' = w1.setCell ⟨BD, 0, none⟩ (.bool true) := by
  have Hd := Lib.hid hd
  have Ho := Lib.hid ho
  clear hd ho
  refine callsD_of_wpS Try.func73 rfl fun c₀ cs hu => ?_
  apply wpS_seq
  apply wpS_region
  simp [wpOpsS, go_sem, recoverD, hu, Try.ntmps73, Exit.thenS]
  refine wpS_of_wp ?_
  have hta : ∀ (u : TypeId) (w : World), (Instr.typeAssert (.iface 109 (.agg #[])) u 109 true).run Try.prog w = .ok (.tuple #[.agg #[], .bool true]) w := fun u w => by kernel_rfl
  have hb1 := hb.later (below_alloc (Below.refl _ _) (.cells #[] 109))
  have hp1 := cell_keep (below_alloc (Below.refl _ _) (.cells #[] 109)) hp
  go_wp2_with (first
    | (go_at_call 71; refine (seg_crash d h0 b _ _ rs i ⟨0, 0, 0, false, ⟨0, 0, 0, 0, ⟨0, 0, 0⟩⟩⟩ _ (Hd.out.later (below_alloc (Below.refl _ _) _)) Ho.out (by decide) (by decide) hs0 hs1 hl (Nat.le_trans hh (by simp))).mono ?_; rintro e w3 ⟨vf3, vl3, rs3, rfl, hD3, hK3⟩; have hb3 := hK3.cells hb1 bool_other; have y0 := hb3.cell 0 _ rfl; have yf := hb3.frozen 0))
  exact ⟨rfl, _, rfl, .tuple #[], results_none rfl _ _ _, rfl, rfl, vf3, vl3, rs3, w3, hD3, (Kp.of (below_alloc (Below.refl _ _) _) hh).trans hK3, rfl⟩
end Go.Proofs.Ytfmojgdomficlaa
set_option linter.unusedVariables false
set_option linter.unusedSimpArgs false
/-! A step. -/
namespace Go.Proofs.Ytfmojgdomficlaa
open Go.RowKit Go.Shelf Go.Proofs.YtfmojgdomficlaaW.PrintWords

/-- What the function of a step does: it answers, or the machine stops. -/
def OpPost (h0 b i : Nat) (ok : Bool) (d' : SDisk) (w : World) (e : Ending) (w' : World) : Prop :=
  DiskPost h0 b ok d' w e w' ∨ ∃ d1, DiskPanic h0 b d1 w e w' ∧ ok = true ∧ d' = crashD d1 i 0 false ∧ OpenOk d1 i ∧ 0 ≤ (fileAt d1 i).safe ∧ (fileAt d1 i).safe ≤ (fileAt d1 i).recs.length ∧ (fileAt d1 i).recs.length ≤ 100000
theorem four_new (w X : World) (c1 c2 c3 c4 : Array Value) (t1 t2 t3 t4 : TypeId) (h : Below (w.heap.size + 1 + 1 + 1 + 1) ((((w.alloc (.cells c1 t1)).alloc (.cells c2 t2)).alloc (.cells c3 t3)).alloc (.cells c4 t4)) X) :
    Cells X w.heap.size c1 t1 ∧ Cells X (w.heap.size + 1) c2 t2 ∧ Cells X (w.heap.size + 1 + 1) c3 t3 ∧ Cells X (w.heap.size + 1 + 1 + 1) c4 t4 ∧ Below w.heap.size w X := by
  have k1 : Cells ((((w.alloc (.cells c1 t1)).alloc (.cells c2 t2)).alloc (.cells c3 t3)).alloc (.cells c4 t4)) w.heap.size c1 t1 := (((Cells.new w c1 t1).later (below_alloc (Below.refl _ _) _)).later (below_alloc (Below.refl _ _) _)).later (below_alloc (Below.refl _ _) _)
  have k2 : Cells ((((w.alloc (.cells c1 t1)).alloc (.cells c2 t2)).alloc (.cells c3 t3)).alloc (.cells c4 t4)) (w.alloc (.cells c1 t1)).heap.size c2 t2 := ((Cells.new _ c2 t2).later (below_alloc (Below.refl _ _) _)).later (below_alloc (Below.refl _ _) _)
  have k3 : Cells ((((w.alloc (.cells c1 t1)).alloc (.cells c2 t2)).alloc (.cells c3 t3)).alloc (.cells c4 t4)) ((w.alloc (.cells c1 t1)).alloc (.cells c2 t2)).heap.size c3 t3 := (Cells.new _ c3 t3).later (below_alloc (Below.refl _ _) _)
  have k4 : Cells ((((w.alloc (.cells c1 t1)).alloc (.cells c2 t2)).alloc (.cells c3 t3)).alloc (.cells c4 t4)) (((w.alloc (.cells c1 t1)).alloc (.cells c2 t2)).alloc (.cells c3 t3)).heap.size c4 t4 := Cells.new _ c4 t4
  have hB : Below w.heap.size w ((((w.alloc (.cells c1 t1)).alloc (.cells c2 t2)).alloc (.cells c3 t3)).alloc (.cells c4 t4)) := below_alloc (below_alloc (below_alloc (below_alloc (Below.refl _ _) _) _) _) _
  have hX : Below ((((w.alloc (.cells c1 t1)).alloc (.cells c2 t2)).alloc (.cells c3 t3)).alloc (.cells c4 t4)).heap.size ((((w.alloc (.cells c1 t1)).alloc (.cells c2 t2)).alloc (.cells c3 t3)).alloc (.cells c4 t4)) X := by simpa using h
  simp only [World.size_alloc] at k2 k3 k4
  exact ⟨k1.later hX, k2.later hX, k3.later hX, k4.later hX, below_step hB hX⟩
/-- A panic that goes through a region: what is said of it looks at the deferred calls and at one temporary alone. -/
def DoQ (Q : Exit → Act → World → Prop) (Ds : List Deferred) (p4 : Value) (Pn : List PanicEntry → World → Prop) : Exit → Act → World → Prop
  | .panic c, a, w => (a.defers = Ds ∧ a.tmps[4]? = some p4) ∧ Pn c w
  | e, a, w => Q e a w
theorem doQ_mono {P : Program} {c : Code} {Q : Exit → Act → World → Prop} {Ds : List Deferred} {p4 : Value} {Pn : List PanicEntry → World → Prop} {a : Act} {w : World} (hP : ∀ c a w, a.defers = Ds → a.tmps[4]? = some p4 → Pn c w → Q (.panic c) a w) (h : c.wp P (DoQ Q Ds p4 Pn) a w) : c.wp P Q a w := by
  refine Code.wp_mono (fun e a w hq => ?_) h
  cases e <;> first | exact hq | exact hP _ _ _ hq.1.1 hq.1.2 hq.2
theorem flow_nilQ {P : Program} {ops : Array Oper} {Q : Exit → Act → World → Prop} {Ds : List Deferred} {p4 : Value} {Pn : List PanicEntry → World → Prop} {C D : World → Prop} {a : Act} (h : ∀ w, In D w → Q .normal a w) : Flow P ops (DoQ Q Ds p4 Pn) [] C D a := ⟨fun w hw => h w ⟨hw⟩⟩
theorem doQ_put {Q : Exit → Act → World → Prop} {Ds : List Deferred} {p4 : Value} {Pn : List PanicEntry → World → Prop} {l : List Oper} (hl : (l.all fun o => o.dst != some 4) = true) : ∀ o ∈ l, ∀ c a v w, DoQ Q Ds p4 Pn (.panic c) (Act.put a o.dst v) w → DoQ Q Ds p4 Pn (.panic c) a w := by
  intro o ho c a v w ⟨⟨h1, h2⟩, h3⟩
  have hne : o.dst ≠ some 4 := by simpa using List.all_eq_true.1 hl o ho
  refine ⟨⟨?_, ?_⟩, h3⟩
  · rw [← h1]; cases o.dst <;> rfl
  · rw [← h2]
    cases hd : o.dst with
    | none => rfl
    | some t =>
      have : t ≠ 4 := fun e => hne (by rw [hd, e])
      simp [Act.put, Array.getElem?_setIfInBounds, this]
set_option maxRecDepth 100000 in
set_option maxHeartbeats 8000000 in
theorem seg_do1 (d : SDisk) (h0 : Nat) (b : Nat) (vf vl : Value) (rs : List RF) (i : Nat) (s : SStep) (ok : Bool) (d' : SDisk) (w : World) (hd : DOwn h0 w b vf vl rs d) (hh : h0 ≤ w.heap.size) (hs : s.do_ = 1) (hw : wholeB d = true)
    (hop : ∀ X, DOwn h0 X b vf vl rs d → h0 ≤ X.heap.size → Calls Try.prog 67 #[.pointer (some ⟨b, 0, none⟩), .agg #[.int .i64 1, .int .i64 s.k, .int .i64 s.stop, .bool s.torn, .int .i64 s.news.do_, .int .i64 s.news.src, .int .i64 s.news.id, .int .i64 s.news.ver, .int .i64 s.news.body.at_, .int .i64 s.news.body.key, .int .i64 s.news.body.val]] X (OpPost h0 b i ok d' X)) :
    Calls Try.prog 48 #[.pointer (some ⟨b, 0, none⟩), .agg #[.int .i64 1, .int .i64 s.k, .int .i64 s.stop, .bool s.torn, .int .i64 s.news.do_, .int .i64 s.news.src, .int .i64 s.news.id, .int .i64 s.news.ver, .int .i64 s.news.body.at_, .int .i64 s.news.body.key, .int .i64 s.news.body.val]] w (DiskPost h0 b ok d' w) := by
  obtain ⟨Af, cf, Al, cl, rfl, rfl, hda⟩ := hd.reads
  have Hd := Lib.hid hd
  have Hda := Lib.hid hda
  have Hop := Lib.hid hop
  have Hs := Lib.hid hs
  have Hw := Lib.hid hw
  clear hd hda hop hw hs
  have hmf : ∀ (fn : Fn) (first cap : Array Value) (w : World), (Instr.makeFunc fn first cap).run Try.prog w = .ok (.func fn first cap) w := fun _ _ _ _ => rfl
  have hsf : ∀ (a : Addr) (fn : Fn) (first cap : Array Value) (m : Mode) (w : World), (store a (.func fn first cap) m).run Try.prog w = stored Try.prog w a (.func fn first cap) m := fun _ _ _ _ _ _ => run_store _ _ _ _ _ rfl
  have hW : Cells ((((w.alloc (.cells #[.pointer (some ⟨b, 0, none⟩)] 77)).alloc (.cells #[.int .i64 1, .int .i64 s.k, .int .i64 s.stop, .bool s.torn, .int .i64 s.news.do_, .int .i64 s.news.src, .int .i64 s.news.id, .int .i64 s.news.ver, .int .i64 s.news.body.at_, .int .i64 s.news.body.key, .int .i64 s.news.body.val] 58)).alloc (.cells #[.bool false] 4)).alloc (.cells #[.nilFunc, .nilFunc, .nilFunc, .nilFunc, .nilFunc, .nilFunc] 107)) (w.heap.size + 1 + 1 + 1) #[.nilFunc, .nilFunc, .nilFunc, .nilFunc, .nilFunc, .nilFunc] 107 := by
    have h := Cells.new (((w.alloc (.cells #[.pointer (some ⟨b, 0, none⟩)] 77)).alloc (.cells #[.int .i64 1, .int .i64 s.k, .int .i64 s.stop, .bool s.torn, .int .i64 s.news.do_, .int .i64 s.news.src, .int .i64 s.news.id, .int .i64 s.news.ver, .int .i64 s.news.body.at_, .int .i64 s.news.body.key, .int .i64 s.news.body.val] 58)).alloc (.cells #[.bool false] 4)) #[.nilFunc, .nilFunc, .nilFunc, .nilFunc, .nilFunc, .nilFunc] 107
    simpa using h
  have x0 := hW.cell 0 _ rfl
  have x1 := hW.cell 1 _ rfl
  have x2 := hW.cell 2 _ rfl
  have x3 := hW.cell 3 _ rfl
  have x4 := hW.cell 4 _ rfl
  have x5 := hW.cell 5 _ rfl
  have y0 := hW.frozen 0
  have y1 := hW.frozen 1
  have y2 := hW.frozen 2
  have y3 := hW.frozen 3
  have y4 := hW.frozen 4
  have y5 := hW.frozen 5
  have HBK := Lib.hid (show Below w.heap.size w ((((w.alloc (.cells #[.pointer (some ⟨b, 0, none⟩)] 77)).alloc (.cells #[.int .i64 1, .int .i64 s.k, .int .i64 s.stop, .bool s.torn, .int .i64 s.news.do_, .int .i64 s.news.src, .int .i64 s.news.id, .int .i64 s.news.ver, .int .i64 s.news.body.at_, .int .i64 s.news.body.key, .int .i64 s.news.body.val] 58)).alloc (.cells #[.bool false] 4)).alloc (.cells #[.func (.func 67) #[] #[], .func (.func 68) #[] #[], .func (.func 69) #[] #[], .func (.func 70) #[] #[], .func (.func 71) #[] #[], .func (.func 72) #[] #[]] 107)) from below_alloc (below_alloc (below_alloc (below_alloc (Below.refl _ _) _) _) _) _)
  have HX := Lib.hid (show ∀ X, Below (w.heap.size + 1 + 1 + 1 + 1) ((((w.alloc (.cells #[.pointer (some ⟨b, 0, none⟩)] 77)).alloc (.cells #[.int .i64 1, .int .i64 s.k, .int .i64 s.stop, .bool s.torn, .int .i64 s.news.do_, .int .i64 s.news.src, .int .i64 s.news.id, .int .i64 s.news.ver, .int .i64 s.news.body.at_, .int .i64 s.news.body.key, .int .i64 s.news.body.val] 58)).alloc (.cells #[.bool false] 4)).alloc (.cells #[.func (.func 67) #[] #[], .func (.func 68) #[] #[], .func (.func 69) #[] #[], .func (.func 70) #[] #[], .func (.func 71) #[] #[], .func (.func 72) #[] #[]] 107)) X → Cells X w.heap.size #[.pointer (some ⟨b, 0, none⟩)] 77 ∧ Cells X (w.heap.size + 1) #[.int .i64 1, .int .i64 s.k, .int .i64 s.stop, .bool s.torn, .int .i64 s.news.do_, .int .i64 s.news.src, .int .i64 s.news.id, .int .i64 s.news.ver, .int .i64 s.news.body.at_, .int .i64 s.news.body.key, .int .i64 s.news.body.val] 58 ∧ Cells X (w.heap.size + 1 + 1) #[.bool false] 4 ∧ Cells X (w.heap.size + 1 + 1 + 1) #[.func (.func 67) #[] #[], .func (.func 68) #[] #[], .func (.func 69) #[] #[], .func (.func 70) #[] #[], .func (.func 71) #[] #[], .func (.func 72) #[] #[]] 107 ∧ Below w.heap.size w X from fun X hX => four_new w X _ _ _ _ _ _ _ _ hX)
  go_enter_defers Try.func48, Try.ntmps48
  go_wp2_with (first
    | (go_at_call 44; refine (seg_whole d b _ _ _ _ _ (Hda.out.later HBK.out)).mono ?_; rintro e w2 ⟨rfl, hb2⟩; rw [Hw.out]; have hX2 := HX.out w2 (by simpa using hb2)))
  obtain ⟨k1, k2, k3, k4, hB2⟩ := hX2
  have K1 := Lib.hid k1
  have K2 := Lib.hid k2
  have K3 := Lib.hid k3
  have K4 := Lib.hid k4
  clear k1 k2 k3 k4 x0 x1 x2 x3 x4 x5 y0 y1 y2 y3 y4 y5 hW HX HBK
  refine doQ_mono (Ds := [{ target := .fn (.func 73) #[.pointer (some ⟨w.heap.size, 0, none⟩), .pointer (some ⟨w.heap.size + 1 + 1, 0, none⟩)], args := #[] }]) (p4 := .pointer (some ⟨w.heap.size + 1 + 1, 0, none⟩))
    (Pn := fun c w' => c = [{ v := .iface 109 (.agg #[]), recovered := false }] ∧ ∃ d1 vf vl rs, DOwn h0 w' b vf vl rs d1 ∧ Kp h0 w w' ∧ Cells w' w.heap.size #[.pointer (some ⟨b, 0, none⟩)] 77 ∧ Cells w' (w.heap.size + 1 + 1) #[.bool false] 4 ∧ ok = true ∧ d' = crashD d1 i 0 false ∧ OpenOk d1 i ∧ 0 ≤ (fileAt d1 i).safe ∧ (fileAt d1 i).safe ≤ (fileAt d1 i).recs.length ∧ (fileAt d1 i).recs.length ≤ 100000) ?_ ?_
  · rintro c a w' hdef h4 ⟨rfl, d1, vf1, vl1, rs1, hD1, hK1, hp1, hq1, rfl, rfl, ho1, hs0, hs1, hl1⟩
    refine (show Leaves Try.prog _ a.tmps (DiskPost h0 b true (crashD d1 i 0 false) w) a.defers (.panicking [{ v := .iface 109 (.agg #[]), recovered := false }]) w' from ?_)
    rw [hdef]
    refine leaves_cons (f := 73) (args := #[.pointer (some ⟨w.heap.size, 0, none⟩), .pointer (some ⟨w.heap.size + 1 + 1, 0, none⟩)]) (by simp) (by simp [go_sem]) ?_
    refine (seg_do1_panic d1 h0 b vf1 vl1 rs1 i _ _ false w' hD1 ho1 hs0 hs1 hl1 (by have := hK1.size; omega) (hp1.cell 0 _ rfl) hq1).mono ?_
    rintro e u' w'' ⟨rfl, rfl, vf2, vl2, rs2, w1, hD2, hK2, rfl⟩
    have hc2 := (hK2.cells hq1 bool_other).set (.bool true)
    have z0 := hc2.cell 0 _ rfl
    have hfin : DiskPost h0 b true (crashD d1 i 0 false) w (.returned (.bool true)) (w1.setCell ⟨w.heap.size + 1 + 1, 0, none⟩ (.bool true)) := ⟨_, _, _, rfl, hD2.setOther (p := ⟨w.heap.size + 1 + 1, 0, none⟩) (hK2.cells hq1 bool_other) bool_other _, (hK1.trans hK2).setNew (p := ⟨w.heap.size + 1 + 1, 0, none⟩) (by simp; omega) (by simp; omega) _⟩
    have h4' : a.tmps.getD 4 undef = .pointer (some ⟨w.heap.size + 1 + 1, 0, none⟩) := by rw [Array.getD_eq_getD_getElem?, h4]; rfl
    simp [Leaves, settle, results, Try.results48, go_sem, h4, z0]
    exact hfin
  have Hwr := Lib.hid (show IntKind.i64.wrap 0 = 0 by decide)
  have Hin := Lib.hid (eq_true (show ((0 : Int) ≤ 0 ∧ (0 : Int) < 6) by decide))
  have Htn := Lib.hid (show (0 : Int).toNat = 0 by decide)
  refine wp_region_flowP [.free 0, .calm 1, .free 2, .free 3, .calm 4, .calm 5, .calm 6, .fence 7, .fence 8] (Below w2.heap.size w2) (Below w2.heap.size w2) (stable_below _ _ (Nat.le_refl _)) (fun _ h => h) (by kernel_rfl) (by kernel_rfl) (below_drew1 (Below.refl _ _)) (doQ_put (by rfl)) ?_
  simp only [pickEnts, pickF, List.getElem?_cons_succ, List.getElem?_cons_zero, List.filterMap_cons, List.filterMap_nil, Option.map_some]
  repeat ((first | refine flow_calm (fun K hK => ?_) | refine flow_free (fun K hK => ?_) | refine float_calm (fun K hK => ?_) | refine float_free (fun K hK => ?_)); go_simp; (try simp only [Hwr.out, Hin.out, Htn.out, if_true]); first | (refine hK _ ?_; clear hK K) | (apply Exists.intro; (refine ⟨fun X => ?_, hK _ ?_⟩); (first | (intro hC; rfl) | rfl | (intro hC; have k2 := K2.out.later hC.out; have k1 := (K1.out.later hC.out).cell 0 _ rfl; have k4 := (K4.out.later hC.out).cell 0 _ rfl; have c0 := k2.cell 0 _ rfl; have c1 := k2.cell 1 _ rfl; have c2 := k2.cell 2 _ rfl; have c3 := k2.cell 3 _ rfl; have c4 := k2.cell 4 _ rfl; have c5 := k2.cell 5 _ rfl; have c6 := k2.cell 6 _ rfl; have c7 := k2.cell 7 _ rfl; have c8 := k2.cell 8 _ rfl; have c9 := k2.cell 9 _ rfl; have c10 := k2.cell 10 _ rfl; go_simp; done) | (intro hC; have k2 := K2.out.later hC.out; have k1 := (K1.out.later hC.out).cell 0 _ rfl; have k4 := (K4.out.later hC.out).cell 0 _ rfl; have c0 := k2.cell 0 _ rfl; have c1 := k2.cell 1 _ rfl; have c2 := k2.cell 2 _ rfl; have c3 := k2.cell 3 _ rfl; have c4 := k2.cell 4 _ rfl; have c5 := k2.cell 5 _ rfl; have c6 := k2.cell 6 _ rfl; have c7 := k2.cell 7 _ rfl; have c8 := k2.cell 8 _ rfl; have c9 := k2.cell 9 _ rfl; have c10 := k2.cell 10 _ rfl; go_simp; rfl) | skip); clear hK K))
  refine flow_fence rfl (fun X hX K hK => ?_)
  go_simp
  have hBX := below_step hB2 hX.out
  refine (Hop.out X (Hd.out.later hBX) (Nat.le_trans hh hBX.size)).mono ?_
  rintro e w3 (⟨vf3, vl3, rs3, rfl, hD3, hK3⟩ | ⟨d1, ⟨vf3, vl3, rs3, rfl, hD3, hK3⟩, hok, hd', ho1, hs0, hs1, hl1⟩)
  · have hK4 : Kp h0 w w3 := (Kp.of hBX hh).trans hK3
    refine hK.out _ _ (fun Z => DOwn h0 Z b vf3 vl3 rs3 d' ∧ Kp h0 w Z ∧ h0 ≤ Z.heap.size ∧ Cells Z (w.heap.size + 1 + 1) #[.bool false] 4) (fun Z => DOwn h0 Z b vf3 vl3 rs3 d' ∧ Kp h0 w Z ∧ h0 ≤ Z.heap.size ∧ Cells Z (w.heap.size + 1 + 1) #[.bool false] 4) (fun Z Z' hZ hb => ⟨hZ.1.later hb, hZ.2.1.later hb hZ.2.2.1, Nat.le_trans hZ.2.2.1 hb.size, hZ.2.2.2.later hb⟩) (fun _ h => h) ⟨hD3, hK4, by have := hK4.size; omega, hK3.cells (K3.out.later hX.out) bool_other⟩ ?_
    clear hK K hX hBX hD3 hK3 hK4
    refine flow_fence rfl (fun X hX K hK => ?_)
    obtain ⟨hD, hKp, hz, hc⟩ := hX.out
    have q0 := hc.cell 0 _ rfl
    have qf := hc.frozen 0
    go_simp
    have hK4 : Kp h0 w (X.setCell ⟨w.heap.size + 1 + 1, 0, none⟩ (.bool ok)) := hKp.setNew (p := ⟨w.heap.size + 1 + 1, 0, none⟩) (by simp; omega) (by simp; omega) _
    refine hK.out _ _ (fun Z => DOwn h0 Z b vf3 vl3 rs3 d' ∧ Kp h0 w Z ∧ h0 ≤ Z.heap.size ∧ Cells Z (w.heap.size + 1 + 1) #[.bool ok] 4) (fun Z => DOwn h0 Z b vf3 vl3 rs3 d' ∧ Kp h0 w Z ∧ h0 ≤ Z.heap.size ∧ Cells Z (w.heap.size + 1 + 1) #[.bool ok] 4) (fun Z Z' hZ hb => ⟨hZ.1.later hb, hZ.2.1.later hb hZ.2.2.1, Nat.le_trans hZ.2.2.1 hb.size, hZ.2.2.2.later hb⟩) (fun _ h => h) ⟨hD.setOther (p := ⟨w.heap.size + 1 + 1, 0, none⟩) hc bool_other _, hK4, by have := hK4.size; omega, hc.set _⟩ ?_
    refine flow_nilQ ?_
    intro Z hZ
    obtain ⟨hD4, hK5, -, hc5⟩ := hZ.out
    clear hZ hX hD hKp hc q0 qf hK4 hK K
    have z0 := hc5.cell 0 _ rfl
    go_wp2
    refine leaves_cons (f := 73) (args := #[.pointer (some ⟨w.heap.size, 0, none⟩), .pointer (some ⟨w.heap.size + 1 + 1, 0, none⟩)]) (by simp) (by simp [go_sem]) ?_
    refine (seg_do1_idle _ _ _).mono ?_
    rintro e u' w'' ⟨rfl, rfl, rfl⟩
    have hfin : DiskPost h0 b ok d' w (.returned (.bool ok)) w'' := ⟨_, _, _, rfl, hD4, hK5⟩
    simp [Leaves, settle, results, Try.results48, go_sem, z0]
    exact hfin
  · have hK4 : Kp h0 w w3 := (Kp.of hBX hh).trans hK3
    exact ⟨⟨rfl, rfl⟩, rfl, d1, ⟨vf3, vl3, rs3, hD3⟩, hK4, hK3.cells (K1.out.later hX.out) (by unfold Mine; decide), hK3.cells (K3.out.later hX.out) bool_other, hok, hd', ho1, hs0, hs1, hl1⟩
set_option maxRecDepth 100000 in
set_option maxHeartbeats 8000000 in
theorem seg_do2 (d : SDisk) (h0 : Nat) (b : Nat) (vf vl : Value) (rs : List RF) (i : Nat) (s : SStep) (ok : Bool) (d' : SDisk) (w : World) (hd : DOwn h0 w b vf vl rs d) (hh : h0 ≤ w.heap.size) (hs : s.do_ = 2) (hw : wholeB d = true)
    (hop : ∀ X, DOwn h0 X b vf vl rs d → h0 ≤ X.heap.size → Calls Try.prog 68 #[.pointer (some ⟨b, 0, none⟩), .agg #[.int .i64 2, .int .i64 s.k, .int .i64 s.stop, .bool s.torn, .int .i64 s.news.do_, .int .i64 s.news.src, .int .i64 s.news.id, .int .i64 s.news.ver, .int .i64 s.news.body.at_, .int .i64 s.news.body.key, .int .i64 s.news.body.val]] X (OpPost h0 b i ok d' X)) :
    Calls Try.prog 48 #[.pointer (some ⟨b, 0, none⟩), .agg #[.int .i64 2, .int .i64 s.k, .int .i64 s.stop, .bool s.torn, .int .i64 s.news.do_, .int .i64 s.news.src, .int .i64 s.news.id, .int .i64 s.news.ver, .int .i64 s.news.body.at_, .int .i64 s.news.body.key, .int .i64 s.news.body.val]] w (DiskPost h0 b ok d' w) := by
  obtain ⟨Af, cf, Al, cl, rfl, rfl, hda⟩ := hd.reads
  have Hd := Lib.hid hd
  have Hda := Lib.hid hda
  have Hop := Lib.hid hop
  have Hs := Lib.hid hs
  have Hw := Lib.hid hw
  clear hd hda hop hw hs
  have hmf : ∀ (fn : Fn) (first cap : Array Value) (w : World), (Instr.makeFunc fn first cap).run Try.prog w = .ok (.func fn first cap) w := fun _ _ _ _ => rfl
  have hsf : ∀ (a : Addr) (fn : Fn) (first cap : Array Value) (m : Mode) (w : World), (store a (.func fn first cap) m).run Try.prog w = stored Try.prog w a (.func fn first cap) m := fun _ _ _ _ _ _ => run_store _ _ _ _ _ rfl
  have hW : Cells ((((w.alloc (.cells #[.pointer (some ⟨b, 0, none⟩)] 77)).alloc (.cells #[.int .i64 2, .int .i64 s.k, .int .i64 s.stop, .bool s.torn, .int .i64 s.news.do_, .int .i64 s.news.src, .int .i64 s.news.id, .int .i64 s.news.ver, .int .i64 s.news.body.at_, .int .i64 s.news.body.key, .int .i64 s.news.body.val] 58)).alloc (.cells #[.bool false] 4)).alloc (.cells #[.nilFunc, .nilFunc, .nilFunc, .nilFunc, .nilFunc, .nilFunc] 107)) (w.heap.size + 1 + 1 + 1) #[.nilFunc, .nilFunc, .nilFunc, .nilFunc, .nilFunc, .nilFunc] 107 := by
    have h := Cells.new (((w.alloc (.cells #[.pointer (some ⟨b, 0, none⟩)] 77)).alloc (.cells #[.int .i64 2, .int .i64 s.k, .int .i64 s.stop, .bool s.torn, .int .i64 s.news.do_, .int .i64 s.news.src, .int .i64 s.news.id, .int .i64 s.news.ver, .int .i64 s.news.body.at_, .int .i64 s.news.body.key, .int .i64 s.news.body.val] 58)).alloc (.cells #[.bool false] 4)) #[.nilFunc, .nilFunc, .nilFunc, .nilFunc, .nilFunc, .nilFunc] 107
    simpa using h
  have x0 := hW.cell 0 _ rfl
  have x1 := hW.cell 1 _ rfl
  have x2 := hW.cell 2 _ rfl
  have x3 := hW.cell 3 _ rfl
  have x4 := hW.cell 4 _ rfl
  have x5 := hW.cell 5 _ rfl
  have y0 := hW.frozen 0
  have y1 := hW.frozen 1
  have y2 := hW.frozen 2
  have y3 := hW.frozen 3
  have y4 := hW.frozen 4
  have y5 := hW.frozen 5
  have HBK := Lib.hid (show Below w.heap.size w ((((w.alloc (.cells #[.pointer (some ⟨b, 0, none⟩)] 77)).alloc (.cells #[.int .i64 2, .int .i64 s.k, .int .i64 s.stop, .bool s.torn, .int .i64 s.news.do_, .int .i64 s.news.src, .int .i64 s.news.id, .int .i64 s.news.ver, .int .i64 s.news.body.at_, .int .i64 s.news.body.key, .int .i64 s.news.body.val] 58)).alloc (.cells #[.bool false] 4)).alloc (.cells #[.func (.func 67) #[] #[], .func (.func 68) #[] #[], .func (.func 69) #[] #[], .func (.func 70) #[] #[], .func (.func 71) #[] #[], .func (.func 72) #[] #[]] 107)) from below_alloc (below_alloc (below_alloc (below_alloc (Below.refl _ _) _) _) _) _)
  have HX := Lib.hid (show ∀ X, Below (w.heap.size + 1 + 1 + 1 + 1) ((((w.alloc (.cells #[.pointer (some ⟨b, 0, none⟩)] 77)).alloc (.cells #[.int .i64 2, .int .i64 s.k, .int .i64 s.stop, .bool s.torn, .int .i64 s.news.do_, .int .i64 s.news.src, .int .i64 s.news.id, .int .i64 s.news.ver, .int .i64 s.news.body.at_, .int .i64 s.news.body.key, .int .i64 s.news.body.val] 58)).alloc (.cells #[.bool false] 4)).alloc (.cells #[.func (.func 67) #[] #[], .func (.func 68) #[] #[], .func (.func 69) #[] #[], .func (.func 70) #[] #[], .func (.func 71) #[] #[], .func (.func 72) #[] #[]] 107)) X → Cells X w.heap.size #[.pointer (some ⟨b, 0, none⟩)] 77 ∧ Cells X (w.heap.size + 1) #[.int .i64 2, .int .i64 s.k, .int .i64 s.stop, .bool s.torn, .int .i64 s.news.do_, .int .i64 s.news.src, .int .i64 s.news.id, .int .i64 s.news.ver, .int .i64 s.news.body.at_, .int .i64 s.news.body.key, .int .i64 s.news.body.val] 58 ∧ Cells X (w.heap.size + 1 + 1) #[.bool false] 4 ∧ Cells X (w.heap.size + 1 + 1 + 1) #[.func (.func 67) #[] #[], .func (.func 68) #[] #[], .func (.func 69) #[] #[], .func (.func 70) #[] #[], .func (.func 71) #[] #[], .func (.func 72) #[] #[]] 107 ∧ Below w.heap.size w X from fun X hX => four_new w X _ _ _ _ _ _ _ _ hX)
  go_enter_defers Try.func48, Try.ntmps48
  go_wp2_with (first
    | (go_at_call 44; refine (seg_whole d b _ _ _ _ _ (Hda.out.later HBK.out)).mono ?_; rintro e w2 ⟨rfl, hb2⟩; rw [Hw.out]; have hX2 := HX.out w2 (by simpa using hb2)))
  obtain ⟨k1, k2, k3, k4, hB2⟩ := hX2
  have K1 := Lib.hid k1
  have K2 := Lib.hid k2
  have K3 := Lib.hid k3
  have K4 := Lib.hid k4
  clear k1 k2 k3 k4 x0 x1 x2 x3 x4 x5 y0 y1 y2 y3 y4 y5 hW HX HBK
  refine doQ_mono (Ds := [{ target := .fn (.func 73) #[.pointer (some ⟨w.heap.size, 0, none⟩), .pointer (some ⟨w.heap.size + 1 + 1, 0, none⟩)], args := #[] }]) (p4 := .pointer (some ⟨w.heap.size + 1 + 1, 0, none⟩))
    (Pn := fun c w' => c = [{ v := .iface 109 (.agg #[]), recovered := false }] ∧ ∃ d1 vf vl rs, DOwn h0 w' b vf vl rs d1 ∧ Kp h0 w w' ∧ Cells w' w.heap.size #[.pointer (some ⟨b, 0, none⟩)] 77 ∧ Cells w' (w.heap.size + 1 + 1) #[.bool false] 4 ∧ ok = true ∧ d' = crashD d1 i 0 false ∧ OpenOk d1 i ∧ 0 ≤ (fileAt d1 i).safe ∧ (fileAt d1 i).safe ≤ (fileAt d1 i).recs.length ∧ (fileAt d1 i).recs.length ≤ 100000) ?_ ?_
  · rintro c a w' hdef h4 ⟨rfl, d1, vf1, vl1, rs1, hD1, hK1, hp1, hq1, rfl, rfl, ho1, hs0, hs1, hl1⟩
    refine (show Leaves Try.prog _ a.tmps (DiskPost h0 b true (crashD d1 i 0 false) w) a.defers (.panicking [{ v := .iface 109 (.agg #[]), recovered := false }]) w' from ?_)
    rw [hdef]
    refine leaves_cons (f := 73) (args := #[.pointer (some ⟨w.heap.size, 0, none⟩), .pointer (some ⟨w.heap.size + 1 + 1, 0, none⟩)]) (by simp) (by simp [go_sem]) ?_
    refine (seg_do1_panic d1 h0 b vf1 vl1 rs1 i _ _ false w' hD1 ho1 hs0 hs1 hl1 (by have := hK1.size; omega) (hp1.cell 0 _ rfl) hq1).mono ?_
    rintro e u' w'' ⟨rfl, rfl, vf2, vl2, rs2, w1, hD2, hK2, rfl⟩
    have hc2 := (hK2.cells hq1 bool_other).set (.bool true)
    have z0 := hc2.cell 0 _ rfl
    have hfin : DiskPost h0 b true (crashD d1 i 0 false) w (.returned (.bool true)) (w1.setCell ⟨w.heap.size + 1 + 1, 0, none⟩ (.bool true)) := ⟨_, _, _, rfl, hD2.setOther (p := ⟨w.heap.size + 1 + 1, 0, none⟩) (hK2.cells hq1 bool_other) bool_other _, (hK1.trans hK2).setNew (p := ⟨w.heap.size + 1 + 1, 0, none⟩) (by simp; omega) (by simp; omega) _⟩
    have h4' : a.tmps.getD 4 undef = .pointer (some ⟨w.heap.size + 1 + 1, 0, none⟩) := by rw [Array.getD_eq_getD_getElem?, h4]; rfl
    simp [Leaves, settle, results, Try.results48, go_sem, h4, z0]
    exact hfin
  have Hwr := Lib.hid (show IntKind.i64.wrap 1 = 1 by decide)
  have Hin := Lib.hid (eq_true (show ((0 : Int) ≤ 1 ∧ (1 : Int) < 6) by decide))
  have Htn := Lib.hid (show (1 : Int).toNat = 1 by decide)
  refine wp_region_flowP [.free 0, .calm 1, .free 2, .free 3, .calm 4, .calm 5, .calm 6, .fence 7, .fence 8] (Below w2.heap.size w2) (Below w2.heap.size w2) (stable_below _ _ (Nat.le_refl _)) (fun _ h => h) (by kernel_rfl) (by kernel_rfl) (below_drew1 (Below.refl _ _)) (doQ_put (by rfl)) ?_
  simp only [pickEnts, pickF, List.getElem?_cons_succ, List.getElem?_cons_zero, List.filterMap_cons, List.filterMap_nil, Option.map_some]
  repeat ((first | refine flow_calm (fun K hK => ?_) | refine flow_free (fun K hK => ?_) | refine float_calm (fun K hK => ?_) | refine float_free (fun K hK => ?_)); go_simp; (try simp only [Hwr.out, Hin.out, Htn.out, if_true]); first | (refine hK _ ?_; clear hK K) | (apply Exists.intro; (refine ⟨fun X => ?_, hK _ ?_⟩); (first | (intro hC; rfl) | rfl | (intro hC; have k2 := K2.out.later hC.out; have k1 := (K1.out.later hC.out).cell 0 _ rfl; have k4 := (K4.out.later hC.out).cell 1 _ rfl; have c0 := k2.cell 0 _ rfl; have c1 := k2.cell 1 _ rfl; have c2 := k2.cell 2 _ rfl; have c3 := k2.cell 3 _ rfl; have c4 := k2.cell 4 _ rfl; have c5 := k2.cell 5 _ rfl; have c6 := k2.cell 6 _ rfl; have c7 := k2.cell 7 _ rfl; have c8 := k2.cell 8 _ rfl; have c9 := k2.cell 9 _ rfl; have c10 := k2.cell 10 _ rfl; go_simp; done) | (intro hC; have k2 := K2.out.later hC.out; have k1 := (K1.out.later hC.out).cell 0 _ rfl; have k4 := (K4.out.later hC.out).cell 1 _ rfl; have c0 := k2.cell 0 _ rfl; have c1 := k2.cell 1 _ rfl; have c2 := k2.cell 2 _ rfl; have c3 := k2.cell 3 _ rfl; have c4 := k2.cell 4 _ rfl; have c5 := k2.cell 5 _ rfl; have c6 := k2.cell 6 _ rfl; have c7 := k2.cell 7 _ rfl; have c8 := k2.cell 8 _ rfl; have c9 := k2.cell 9 _ rfl; have c10 := k2.cell 10 _ rfl; go_simp; rfl) | skip); clear hK K))
  refine flow_fence rfl (fun X hX K hK => ?_)
  go_simp
  have hBX := below_step hB2 hX.out
  refine (Hop.out X (Hd.out.later hBX) (Nat.le_trans hh hBX.size)).mono ?_
  rintro e w3 (⟨vf3, vl3, rs3, rfl, hD3, hK3⟩ | ⟨d1, ⟨vf3, vl3, rs3, rfl, hD3, hK3⟩, hok, hd', ho1, hs0, hs1, hl1⟩)
  · have hK4 : Kp h0 w w3 := (Kp.of hBX hh).trans hK3
    refine hK.out _ _ (fun Z => DOwn h0 Z b vf3 vl3 rs3 d' ∧ Kp h0 w Z ∧ h0 ≤ Z.heap.size ∧ Cells Z (w.heap.size + 1 + 1) #[.bool false] 4) (fun Z => DOwn h0 Z b vf3 vl3 rs3 d' ∧ Kp h0 w Z ∧ h0 ≤ Z.heap.size ∧ Cells Z (w.heap.size + 1 + 1) #[.bool false] 4) (fun Z Z' hZ hb => ⟨hZ.1.later hb, hZ.2.1.later hb hZ.2.2.1, Nat.le_trans hZ.2.2.1 hb.size, hZ.2.2.2.later hb⟩) (fun _ h => h) ⟨hD3, hK4, by have := hK4.size; omega, hK3.cells (K3.out.later hX.out) bool_other⟩ ?_
    clear hK K hX hBX hD3 hK3 hK4
    refine flow_fence rfl (fun X hX K hK => ?_)
    obtain ⟨hD, hKp, hz, hc⟩ := hX.out
    have q0 := hc.cell 0 _ rfl
    have qf := hc.frozen 0
    go_simp
    have hK4 : Kp h0 w (X.setCell ⟨w.heap.size + 1 + 1, 0, none⟩ (.bool ok)) := hKp.setNew (p := ⟨w.heap.size + 1 + 1, 0, none⟩) (by simp; omega) (by simp; omega) _
    refine hK.out _ _ (fun Z => DOwn h0 Z b vf3 vl3 rs3 d' ∧ Kp h0 w Z ∧ h0 ≤ Z.heap.size ∧ Cells Z (w.heap.size + 1 + 1) #[.bool ok] 4) (fun Z => DOwn h0 Z b vf3 vl3 rs3 d' ∧ Kp h0 w Z ∧ h0 ≤ Z.heap.size ∧ Cells Z (w.heap.size + 1 + 1) #[.bool ok] 4) (fun Z Z' hZ hb => ⟨hZ.1.later hb, hZ.2.1.later hb hZ.2.2.1, Nat.le_trans hZ.2.2.1 hb.size, hZ.2.2.2.later hb⟩) (fun _ h => h) ⟨hD.setOther (p := ⟨w.heap.size + 1 + 1, 0, none⟩) hc bool_other _, hK4, by have := hK4.size; omega, hc.set _⟩ ?_
    refine flow_nilQ ?_
    intro Z hZ
    obtain ⟨hD4, hK5, -, hc5⟩ := hZ.out
    clear hZ hX hD hKp hc q0 qf hK4 hK K
    have z0 := hc5.cell 0 _ rfl
    go_wp2
    refine leaves_cons (f := 73) (args := #[.pointer (some ⟨w.heap.size, 0, none⟩), .pointer (some ⟨w.heap.size + 1 + 1, 0, none⟩)]) (by simp) (by simp [go_sem]) ?_
    refine (seg_do1_idle _ _ _).mono ?_
    rintro e u' w'' ⟨rfl, rfl, rfl⟩
    have hfin : DiskPost h0 b ok d' w (.returned (.bool ok)) w'' := ⟨_, _, _, rfl, hD4, hK5⟩
    simp [Leaves, settle, results, Try.results48, go_sem, z0]
    exact hfin
  · have hK4 : Kp h0 w w3 := (Kp.of hBX hh).trans hK3
    exact ⟨⟨rfl, rfl⟩, rfl, d1, ⟨vf3, vl3, rs3, hD3⟩, hK4, hK3.cells (K1.out.later hX.out) (by unfold Mine; decide), hK3.cells (K3.out.later hX.out) bool_other, hok, hd', ho1, hs0, hs1, hl1⟩
set_option maxRecDepth 100000 in
set_option maxHeartbeats 8000000 in
theorem seg_do3 (d : SDisk) (h0 : Nat) (b : Nat) (vf vl : Value) (rs : List RF) (i : Nat) (s : SStep) (ok : Bool) (d' : SDisk) (w : World) (hd : DOwn h0 w b vf vl rs d) (hh : h0 ≤ w.heap.size) (hs : s.do_ = 3) (hw : wholeB d = true)
    (hop : ∀ X, DOwn h0 X b vf vl rs d → h0 ≤ X.heap.size → Calls Try.prog 69 #[.pointer (some ⟨b, 0, none⟩), .agg #[.int .i64 3, .int .i64 s.k, .int .i64 s.stop, .bool s.torn, .int .i64 s.news.do_, .int .i64 s.news.src, .int .i64 s.news.id, .int .i64 s.news.ver, .int .i64 s.news.body.at_, .int .i64 s.news.body.key, .int .i64 s.news.body.val]] X (OpPost h0 b i ok d' X)) :
    Calls Try.prog 48 #[.pointer (some ⟨b, 0, none⟩), .agg #[.int .i64 3, .int .i64 s.k, .int .i64 s.stop, .bool s.torn, .int .i64 s.news.do_, .int .i64 s.news.src, .int .i64 s.news.id, .int .i64 s.news.ver, .int .i64 s.news.body.at_, .int .i64 s.news.body.key, .int .i64 s.news.body.val]] w (DiskPost h0 b ok d' w) := by
  obtain ⟨Af, cf, Al, cl, rfl, rfl, hda⟩ := hd.reads
  have Hd := Lib.hid hd
  have Hda := Lib.hid hda
  have Hop := Lib.hid hop
  have Hs := Lib.hid hs
  have Hw := Lib.hid hw
  clear hd hda hop hw hs
  have hmf : ∀ (fn : Fn) (first cap : Array Value) (w : World), (Instr.makeFunc fn first cap).run Try.prog w = .ok (.func fn first cap) w := fun _ _ _ _ => rfl
  have hsf : ∀ (a : Addr) (fn : Fn) (first cap : Array Value) (m : Mode) (w : World), (store a (.func fn first cap) m).run Try.prog w = stored Try.prog w a (.func fn first cap) m := fun _ _ _ _ _ _ => run_store _ _ _ _ _ rfl
  have hW : Cells ((((w.alloc (.cells #[.pointer (some ⟨b, 0, none⟩)] 77)).alloc (.cells #[.int .i64 3, .int .i64 s.k, .int .i64 s.stop, .bool s.torn, .int .i64 s.news.do_, .int .i64 s.news.src, .int .i64 s.news.id, .int .i64 s.news.ver, .int .i64 s.news.body.at_, .int .i64 s.news.body.key, .int .i64 s.news.body.val] 58)).alloc (.cells #[.bool false] 4)).alloc (.cells #[.nilFunc, .nilFunc, .nilFunc, .nilFunc, .nilFunc, .nilFunc] 107)) (w.heap.size + 1 + 1 + 1) #[.nilFunc, .nilFunc, .nilFunc, .nilFunc, .nilFunc, .nilFunc] 107 := by
    have h := Cells.new (((w.alloc (.cells #[.pointer (some ⟨b, 0, none⟩)] 77)).alloc (.cells #[.int .i64 3, .int .i64 s.k, .int .i64 s.stop, .bool s.torn, .int .i64 s.news.do_, .int .i64 s.news.src, .int .i64 s.news.id, .int .i64 s.news.ver, .int .i64 s.news.body.at_, .int .i64 s.news.body.key, .int .i64 s.news.body.val] 58)).alloc (.cells #[.bool false] 4)) #[.nilFunc, .nilFunc, .nilFunc, .nilFunc, .nilFunc, .nilFunc] 107
    simpa using h
  have x0 := hW.cell 0 _ rfl
  have x1 := hW.cell 1 _ rfl
  have x2 := hW.cell 2 _ rfl
  have x3 := hW.cell 3 _ rfl
  have x4 := hW.cell 4 _ rfl
  have x5 := hW.cell 5 _ rfl
  have y0 := hW.frozen 0
  have y1 := hW.frozen 1
  have y2 := hW.frozen 2
  have y3 := hW.frozen 3
  have y4 := hW.frozen 4
  have y5 := hW.frozen 5
  have HBK := Lib.hid (show Below w.heap.size w ((((w.alloc (.cells #[.pointer (some ⟨b, 0, none⟩)] 77)).alloc (.cells #[.int .i64 3, .int .i64 s.k, .int .i64 s.stop, .bool s.torn, .int .i64 s.news.do_, .int .i64 s.news.src, .int .i64 s.news.id, .int .i64 s.news.ver, .int .i64 s.news.body.at_, .int .i64 s.news.body.key, .int .i64 s.news.body.val] 58)).alloc (.cells #[.bool false] 4)).alloc (.cells #[.func (.func 67) #[] #[], .func (.func 68) #[] #[], .func (.func 69) #[] #[], .func (.func 70) #[] #[], .func (.func 71) #[] #[], .func (.func 72) #[] #[]] 107)) from below_alloc (below_alloc (below_alloc (below_alloc (Below.refl _ _) _) _) _) _)
  have HX := Lib.hid (show ∀ X, Below (w.heap.size + 1 + 1 + 1 + 1) ((((w.alloc (.cells #[.pointer (some ⟨b, 0, none⟩)] 77)).alloc (.cells #[.int .i64 3, .int .i64 s.k, .int .i64 s.stop, .bool s.torn, .int .i64 s.news.do_, .int .i64 s.news.src, .int .i64 s.news.id, .int .i64 s.news.ver, .int .i64 s.news.body.at_, .int .i64 s.news.body.key, .int .i64 s.news.body.val] 58)).alloc (.cells #[.bool false] 4)).alloc (.cells #[.func (.func 67) #[] #[], .func (.func 68) #[] #[], .func (.func 69) #[] #[], .func (.func 70) #[] #[], .func (.func 71) #[] #[], .func (.func 72) #[] #[]] 107)) X → Cells X w.heap.size #[.pointer (some ⟨b, 0, none⟩)] 77 ∧ Cells X (w.heap.size + 1) #[.int .i64 3, .int .i64 s.k, .int .i64 s.stop, .bool s.torn, .int .i64 s.news.do_, .int .i64 s.news.src, .int .i64 s.news.id, .int .i64 s.news.ver, .int .i64 s.news.body.at_, .int .i64 s.news.body.key, .int .i64 s.news.body.val] 58 ∧ Cells X (w.heap.size + 1 + 1) #[.bool false] 4 ∧ Cells X (w.heap.size + 1 + 1 + 1) #[.func (.func 67) #[] #[], .func (.func 68) #[] #[], .func (.func 69) #[] #[], .func (.func 70) #[] #[], .func (.func 71) #[] #[], .func (.func 72) #[] #[]] 107 ∧ Below w.heap.size w X from fun X hX => four_new w X _ _ _ _ _ _ _ _ hX)
  go_enter_defers Try.func48, Try.ntmps48
  go_wp2_with (first
    | (go_at_call 44; refine (seg_whole d b _ _ _ _ _ (Hda.out.later HBK.out)).mono ?_; rintro e w2 ⟨rfl, hb2⟩; rw [Hw.out]; have hX2 := HX.out w2 (by simpa using hb2)))
  obtain ⟨k1, k2, k3, k4, hB2⟩ := hX2
  have K1 := Lib.hid k1
  have K2 := Lib.hid k2
  have K3 := Lib.hid k3
  have K4 := Lib.hid k4
  clear k1 k2 k3 k4 x0 x1 x2 x3 x4 x5 y0 y1 y2 y3 y4 y5 hW HX HBK
  refine doQ_mono (Ds := [{ target := .fn (.func 73) #[.pointer (some ⟨w.heap.size, 0, none⟩), .pointer (some ⟨w.heap.size + 1 + 1, 0, none⟩)], args := #[] }]) (p4 := .pointer (some ⟨w.heap.size + 1 + 1, 0, none⟩))
    (Pn := fun c w' => c = [{ v := .iface 109 (.agg #[]), recovered := false }] ∧ ∃ d1 vf vl rs, DOwn h0 w' b vf vl rs d1 ∧ Kp h0 w w' ∧ Cells w' w.heap.size #[.pointer (some ⟨b, 0, none⟩)] 77 ∧ Cells w' (w.heap.size + 1 + 1) #[.bool false] 4 ∧ ok = true ∧ d' = crashD d1 i 0 false ∧ OpenOk d1 i ∧ 0 ≤ (fileAt d1 i).safe ∧ (fileAt d1 i).safe ≤ (fileAt d1 i).recs.length ∧ (fileAt d1 i).recs.length ≤ 100000) ?_ ?_
  · rintro c a w' hdef h4 ⟨rfl, d1, vf1, vl1, rs1, hD1, hK1, hp1, hq1, rfl, rfl, ho1, hs0, hs1, hl1⟩
    refine (show Leaves Try.prog _ a.tmps (DiskPost h0 b true (crashD d1 i 0 false) w) a.defers (.panicking [{ v := .iface 109 (.agg #[]), recovered := false }]) w' from ?_)
    rw [hdef]
    refine leaves_cons (f := 73) (args := #[.pointer (some ⟨w.heap.size, 0, none⟩), .pointer (some ⟨w.heap.size + 1 + 1, 0, none⟩)]) (by simp) (by simp [go_sem]) ?_
    refine (seg_do1_panic d1 h0 b vf1 vl1 rs1 i _ _ false w' hD1 ho1 hs0 hs1 hl1 (by have := hK1.size; omega) (hp1.cell 0 _ rfl) hq1).mono ?_
    rintro e u' w'' ⟨rfl, rfl, vf2, vl2, rs2, w1, hD2, hK2, rfl⟩
    have hc2 := (hK2.cells hq1 bool_other).set (.bool true)
    have z0 := hc2.cell 0 _ rfl
    have hfin : DiskPost h0 b true (crashD d1 i 0 false) w (.returned (.bool true)) (w1.setCell ⟨w.heap.size + 1 + 1, 0, none⟩ (.bool true)) := ⟨_, _, _, rfl, hD2.setOther (p := ⟨w.heap.size + 1 + 1, 0, none⟩) (hK2.cells hq1 bool_other) bool_other _, (hK1.trans hK2).setNew (p := ⟨w.heap.size + 1 + 1, 0, none⟩) (by simp; omega) (by simp; omega) _⟩
    have h4' : a.tmps.getD 4 undef = .pointer (some ⟨w.heap.size + 1 + 1, 0, none⟩) := by rw [Array.getD_eq_getD_getElem?, h4]; rfl
    simp [Leaves, settle, results, Try.results48, go_sem, h4, z0]
    exact hfin
  have Hwr := Lib.hid (show IntKind.i64.wrap 2 = 2 by decide)
  have Hin := Lib.hid (eq_true (show ((0 : Int) ≤ 2 ∧ (2 : Int) < 6) by decide))
  have Htn := Lib.hid (show (2 : Int).toNat = 2 by decide)
  refine wp_region_flowP [.free 0, .calm 1, .free 2, .free 3, .calm 4, .calm 5, .calm 6, .fence 7, .fence 8] (Below w2.heap.size w2) (Below w2.heap.size w2) (stable_below _ _ (Nat.le_refl _)) (fun _ h => h) (by kernel_rfl) (by kernel_rfl) (below_drew1 (Below.refl _ _)) (doQ_put (by rfl)) ?_
  simp only [pickEnts, pickF, List.getElem?_cons_succ, List.getElem?_cons_zero, List.filterMap_cons, List.filterMap_nil, Option.map_some]
  repeat ((first | refine flow_calm (fun K hK => ?_) | refine flow_free (fun K hK => ?_) | refine float_calm (fun K hK => ?_) | refine float_free (fun K hK => ?_)); go_simp; (try simp only [Hwr.out, Hin.out, Htn.out, if_true]); first | (refine hK _ ?_; clear hK K) | (apply Exists.intro; (refine ⟨fun X => ?_, hK _ ?_⟩); (first | (intro hC; rfl) | rfl | (intro hC; have k2 := K2.out.later hC.out; have k1 := (K1.out.later hC.out).cell 0 _ rfl; have k4 := (K4.out.later hC.out).cell 2 _ rfl; have c0 := k2.cell 0 _ rfl; have c1 := k2.cell 1 _ rfl; have c2 := k2.cell 2 _ rfl; have c3 := k2.cell 3 _ rfl; have c4 := k2.cell 4 _ rfl; have c5 := k2.cell 5 _ rfl; have c6 := k2.cell 6 _ rfl; have c7 := k2.cell 7 _ rfl; have c8 := k2.cell 8 _ rfl; have c9 := k2.cell 9 _ rfl; have c10 := k2.cell 10 _ rfl; go_simp; done) | (intro hC; have k2 := K2.out.later hC.out; have k1 := (K1.out.later hC.out).cell 0 _ rfl; have k4 := (K4.out.later hC.out).cell 2 _ rfl; have c0 := k2.cell 0 _ rfl; have c1 := k2.cell 1 _ rfl; have c2 := k2.cell 2 _ rfl; have c3 := k2.cell 3 _ rfl; have c4 := k2.cell 4 _ rfl; have c5 := k2.cell 5 _ rfl; have c6 := k2.cell 6 _ rfl; have c7 := k2.cell 7 _ rfl; have c8 := k2.cell 8 _ rfl; have c9 := k2.cell 9 _ rfl; have c10 := k2.cell 10 _ rfl; go_simp; rfl) | skip); clear hK K))
  refine flow_fence rfl (fun X hX K hK => ?_)
  go_simp
  have hBX := below_step hB2 hX.out
  refine (Hop.out X (Hd.out.later hBX) (Nat.le_trans hh hBX.size)).mono ?_
  rintro e w3 (⟨vf3, vl3, rs3, rfl, hD3, hK3⟩ | ⟨d1, ⟨vf3, vl3, rs3, rfl, hD3, hK3⟩, hok, hd', ho1, hs0, hs1, hl1⟩)
  · have hK4 : Kp h0 w w3 := (Kp.of hBX hh).trans hK3
    refine hK.out _ _ (fun Z => DOwn h0 Z b vf3 vl3 rs3 d' ∧ Kp h0 w Z ∧ h0 ≤ Z.heap.size ∧ Cells Z (w.heap.size + 1 + 1) #[.bool false] 4) (fun Z => DOwn h0 Z b vf3 vl3 rs3 d' ∧ Kp h0 w Z ∧ h0 ≤ Z.heap.size ∧ Cells Z (w.heap.size + 1 + 1) #[.bool false] 4) (fun Z Z' hZ hb => ⟨hZ.1.later hb, hZ.2.1.later hb hZ.2.2.1, Nat.le_trans hZ.2.2.1 hb.size, hZ.2.2.2.later hb⟩) (fun _ h => h) ⟨hD3, hK4, by have := hK4.size; omega, hK3.cells (K3.out.later hX.out) bool_other⟩ ?_
    clear hK K hX hBX hD3 hK3 hK4
    refine flow_fence rfl (fun X hX K hK => ?_)
    obtain ⟨hD, hKp, hz, hc⟩ := hX.out
    have q0 := hc.cell 0 _ rfl
    have qf := hc.frozen 0
    go_simp
    have hK4 : Kp h0 w (X.setCell ⟨w.heap.size + 1 + 1, 0, none⟩ (.bool ok)) := hKp.setNew (p := ⟨w.heap.size + 1 + 1, 0, none⟩) (by simp; omega) (by simp; omega) _
    refine hK.out _ _ (fun Z => DOwn h0 Z b vf3 vl3 rs3 d' ∧ Kp h0 w Z ∧ h0 ≤ Z.heap.size ∧ Cells Z (w.heap.size + 1 + 1) #[.bool ok] 4) (fun Z => DOwn h0 Z b vf3 vl3 rs3 d' ∧ Kp h0 w Z ∧ h0 ≤ Z.heap.size ∧ Cells Z (w.heap.size + 1 + 1) #[.bool ok] 4) (fun Z Z' hZ hb => ⟨hZ.1.later hb, hZ.2.1.later hb hZ.2.2.1, Nat.le_trans hZ.2.2.1 hb.size, hZ.2.2.2.later hb⟩) (fun _ h => h) ⟨hD.setOther (p := ⟨w.heap.size + 1 + 1, 0, none⟩) hc bool_other _, hK4, by have := hK4.size; omega, hc.set _⟩ ?_
    refine flow_nilQ ?_
    intro Z hZ
    obtain ⟨hD4, hK5, -, hc5⟩ := hZ.out
    clear hZ hX hD hKp hc q0 qf hK4 hK K
    have z0 := hc5.cell 0 _ rfl
    go_wp2
    refine leaves_cons (f := 73) (args := #[.pointer (some ⟨w.heap.size, 0, none⟩), .pointer (some ⟨w.heap.size + 1 + 1, 0, none⟩)]) (by simp) (by simp [go_sem]) ?_
    refine (seg_do1_idle _ _ _).mono ?_
    rintro e u' w'' ⟨rfl, rfl, rfl⟩
    have hfin : DiskPost h0 b ok d' w (.returned (.bool ok)) w'' := ⟨_, _, _, rfl, hD4, hK5⟩
    simp [Leaves, settle, results, Try.results48, go_sem, z0]
    exact hfin
  · have hK4 : Kp h0 w w3 := (Kp.of hBX hh).trans hK3
    exact ⟨⟨rfl, rfl⟩, rfl, d1, ⟨vf3, vl3, rs3, hD3⟩, hK4, hK3.cells (K1.out.later hX.out) (by unfold Mine; decide), hK3.cells (K3.out.later hX.out) bool_other, hok, hd', ho1, hs0, hs1, hl1⟩
set_option maxRecDepth 100000 in
set_option maxHeartbeats 8000000 in
theorem seg_do4 (d : SDisk) (h0 : Nat) (b : Nat) (vf vl : Value) (rs : List RF) (i : Nat) (s : SStep) (ok : Bool) (d' : SDisk) (w : World) (hd : DOwn h0 w b vf vl rs d) (hh : h0 ≤ w.heap.size) (hs : s.do_ = 4) (hw : wholeB d = true)
    (hop : ∀ X, DOwn h0 X b vf vl rs d → h0 ≤ X.heap.size → Calls Try.prog 70 #[.pointer (some ⟨b, 0, none⟩), .agg #[.int .i64 4, .int .i64 s.k, .int .i64 s.stop, .bool s.torn, .int .i64 s.news.do_, .int .i64 s.news.src, .int .i64 s.news.id, .int .i64 s.news.ver, .int .i64 s.news.body.at_, .int .i64 s.news.body.key, .int .i64 s.news.body.val]] X (OpPost h0 b i ok d' X)) :
    Calls Try.prog 48 #[.pointer (some ⟨b, 0, none⟩), .agg #[.int .i64 4, .int .i64 s.k, .int .i64 s.stop, .bool s.torn, .int .i64 s.news.do_, .int .i64 s.news.src, .int .i64 s.news.id, .int .i64 s.news.ver, .int .i64 s.news.body.at_, .int .i64 s.news.body.key, .int .i64 s.news.body.val]] w (DiskPost h0 b ok d' w) := by
  obtain ⟨Af, cf, Al, cl, rfl, rfl, hda⟩ := hd.reads
  have Hd := Lib.hid hd
  have Hda := Lib.hid hda
  have Hop := Lib.hid hop
  have Hs := Lib.hid hs
  have Hw := Lib.hid hw
  clear hd hda hop hw hs
  have hmf : ∀ (fn : Fn) (first cap : Array Value) (w : World), (Instr.makeFunc fn first cap).run Try.prog w = .ok (.func fn first cap) w := fun _ _ _ _ => rfl
  have hsf : ∀ (a : Addr) (fn : Fn) (first cap : Array Value) (m : Mode) (w : World), (store a (.func fn first cap) m).run Try.prog w = stored Try.prog w a (.func fn first cap) m := fun _ _ _ _ _ _ => run_store _ _ _ _ _ rfl
  have hW : Cells ((((w.alloc (.cells #[.pointer (some ⟨b, 0, none⟩)] 77)).alloc (.cells #[.int .i64 4, .int .i64 s.k, .int .i64 s.stop, .bool s.torn, .int .i64 s.news.do_, .int .i64 s.news.src, .int .i64 s.news.id, .int .i64 s.news.ver, .int .i64 s.news.body.at_, .int .i64 s.news.body.key, .int .i64 s.news.body.val] 58)).alloc (.cells #[.bool false] 4)).alloc (.cells #[.nilFunc, .nilFunc, .nilFunc, .nilFunc, .nilFunc, .nilFunc] 107)) (w.heap.size + 1 + 1 + 1) #[.nilFunc, .nilFunc, .nilFunc, .nilFunc, .nilFunc, .nilFunc] 107 := by
    have h := Cells.new (((w.alloc (.cells #[.pointer (some ⟨b, 0, none⟩)] 77)).alloc (.cells #[.int .i64 4, .int .i64 s.k, .int .i64 s.stop, .bool s.torn, .int .i64 s.news.do_, .int .i64 s.news.src, .int .i64 s.news.id, .int .i64 s.news.ver, .int .i64 s.news.body.at_, .int .i64 s.news.body.key, .int .i64 s.news.body.val] 58)).alloc (.cells #[.bool false] 4)) #[.nilFunc, .nilFunc, .nilFunc, .nilFunc, .nilFunc, .nilFunc] 107
    simpa using h
  have x0 := hW.cell 0 _ rfl
  have x1 := hW.cell 1 _ rfl
  have x2 := hW.cell 2 _ rfl
  have x3 := hW.cell 3 _ rfl
  have x4 := hW.cell 4 _ rfl
  have x5 := hW.cell 5 _ rfl
  have y0 := hW.frozen 0
  have y1 := hW.frozen 1
  have y2 := hW.frozen 2
  have y3 := hW.frozen 3
  have y4 := hW.frozen 4
  have y5 := hW.frozen 5
  have HBK := Lib.hid (show Below w.heap.size w ((((w.alloc (.cells #[.pointer (some ⟨b, 0, none⟩)] 77)).alloc (.cells #[.int .i64 4, .int .i64 s.k, .int .i64 s.stop, .bool s.torn, .int .i64 s.news.do_, .int .i64 s.news.src, .int .i64 s.news.id, .int .i64 s.news.ver, .int .i64 s.news.body.at_, .int .i64 s.news.body.key, .int .i64 s.news.body.val] 58)).alloc (.cells #[.bool false] 4)).alloc (.cells #[.func (.func 67) #[] #[], .func (.func 68) #[] #[], .func (.func 69) #[] #[], .func (.func 70) #[] #[], .func (.func 71) #[] #[], .func (.func 72) #[] #[]] 107)) from below_alloc (below_alloc (below_alloc (below_alloc (Below.refl _ _) _) _) _) _)
  have HX := Lib.hid (show ∀ X, Below (w.heap.size + 1 + 1 + 1 + 1) ((((w.alloc (.cells #[.pointer (some ⟨b, 0, none⟩)] 77)).alloc (.cells #[.int .i64 4, .int .i64 s.k, .int .i64 s.stop, .bool s.torn, .int .i64 s.news.do_, .int .i64 s.news.src, .int .i64 s.news.id, .int .i64 s.news.ver, .int .i64 s.news.body.at_, .int .i64 s.news.body.key, .int .i64 s.news.body.val] 58)).alloc (.cells #[.bool false] 4)).alloc (.cells #[.func (.func 67) #[] #[], .func (.func 68) #[] #[], .func (.func 69) #[] #[], .func (.func 70) #[] #[], .func (.func 71) #[] #[], .func (.func 72) #[] #[]] 107)) X → Cells X w.heap.size #[.pointer (some ⟨b, 0, none⟩)] 77 ∧ Cells X (w.heap.size + 1) #[.int .i64 4, .int .i64 s.k, .int .i64 s.stop, .bool s.torn, .int .i64 s.news.do_, .int .i64 s.news.src, .int .i64 s.news.id, .int .i64 s.news.ver, .int .i64 s.news.body.at_, .int .i64 s.news.body.key, .int .i64 s.news.body.val] 58 ∧ Cells X (w.heap.size + 1 + 1) #[.bool false] 4 ∧ Cells X (w.heap.size + 1 + 1 + 1) #[.func (.func 67) #[] #[], .func (.func 68) #[] #[], .func (.func 69) #[] #[], .func (.func 70) #[] #[], .func (.func 71) #[] #[], .func (.func 72) #[] #[]] 107 ∧ Below w.heap.size w X from fun X hX => four_new w X _ _ _ _ _ _ _ _ hX)
  go_enter_defers Try.func48, Try.ntmps48
  go_wp2_with (first
    | (go_at_call 44; refine (seg_whole d b _ _ _ _ _ (Hda.out.later HBK.out)).mono ?_; rintro e w2 ⟨rfl, hb2⟩; rw [Hw.out]; have hX2 := HX.out w2 (by simpa using hb2)))
  obtain ⟨k1, k2, k3, k4, hB2⟩ := hX2
  have K1 := Lib.hid k1
  have K2 := Lib.hid k2
  have K3 := Lib.hid k3
  have K4 := Lib.hid k4
  clear k1 k2 k3 k4 x0 x1 x2 x3 x4 x5 y0 y1 y2 y3 y4 y5 hW HX HBK
  refine doQ_mono (Ds := [{ target := .fn (.func 73) #[.pointer (some ⟨w.heap.size, 0, none⟩), .pointer (some ⟨w.heap.size + 1 + 1, 0, none⟩)], args := #[] }]) (p4 := .pointer (some ⟨w.heap.size + 1 + 1, 0, none⟩))
    (Pn := fun c w' => c = [{ v := .iface 109 (.agg #[]), recovered := false }] ∧ ∃ d1 vf vl rs, DOwn h0 w' b vf vl rs d1 ∧ Kp h0 w w' ∧ Cells w' w.heap.size #[.pointer (some ⟨b, 0, none⟩)] 77 ∧ Cells w' (w.heap.size + 1 + 1) #[.bool false] 4 ∧ ok = true ∧ d' = crashD d1 i 0 false ∧ OpenOk d1 i ∧ 0 ≤ (fileAt d1 i).safe ∧ (fileAt d1 i).safe ≤ (fileAt d1 i).recs.length ∧ (fileAt d1 i).recs.length ≤ 100000) ?_ ?_
  · rintro c a w' hdef h4 ⟨rfl, d1, vf1, vl1, rs1, hD1, hK1, hp1, hq1, rfl, rfl, ho1, hs0, hs1, hl1⟩
    refine (show Leaves Try.prog _ a.tmps (DiskPost h0 b true (crashD d1 i 0 false) w) a.defers (.panicking [{ v := .iface 109 (.agg #[]), recovered := false }]) w' from ?_)
    rw [hdef]
    refine leaves_cons (f := 73) (args := #[.pointer (some ⟨w.heap.size, 0, none⟩), .pointer (some ⟨w.heap.size + 1 + 1, 0, none⟩)]) (by simp) (by simp [go_sem]) ?_
    refine (seg_do1_panic d1 h0 b vf1 vl1 rs1 i _ _ false w' hD1 ho1 hs0 hs1 hl1 (by have := hK1.size; omega) (hp1.cell 0 _ rfl) hq1).mono ?_
    rintro e u' w'' ⟨rfl, rfl, vf2, vl2, rs2, w1, hD2, hK2, rfl⟩
    have hc2 := (hK2.cells hq1 bool_other).set (.bool true)
    have z0 := hc2.cell 0 _ rfl
    have hfin : DiskPost h0 b true (crashD d1 i 0 false) w (.returned (.bool true)) (w1.setCell ⟨w.heap.size + 1 + 1, 0, none⟩ (.bool true)) := ⟨_, _, _, rfl, hD2.setOther (p := ⟨w.heap.size + 1 + 1, 0, none⟩) (hK2.cells hq1 bool_other) bool_other _, (hK1.trans hK2).setNew (p := ⟨w.heap.size + 1 + 1, 0, none⟩) (by simp; omega) (by simp; omega) _⟩
    have h4' : a.tmps.getD 4 undef = .pointer (some ⟨w.heap.size + 1 + 1, 0, none⟩) := by rw [Array.getD_eq_getD_getElem?, h4]; rfl
    simp [Leaves, settle, results, Try.results48, go_sem, h4, z0]
    exact hfin
  have Hwr := Lib.hid (show IntKind.i64.wrap 3 = 3 by decide)
  have Hin := Lib.hid (eq_true (show ((0 : Int) ≤ 3 ∧ (3 : Int) < 6) by decide))
  have Htn := Lib.hid (show (3 : Int).toNat = 3 by decide)
  refine wp_region_flowP [.free 0, .calm 1, .free 2, .free 3, .calm 4, .calm 5, .calm 6, .fence 7, .fence 8] (Below w2.heap.size w2) (Below w2.heap.size w2) (stable_below _ _ (Nat.le_refl _)) (fun _ h => h) (by kernel_rfl) (by kernel_rfl) (below_drew1 (Below.refl _ _)) (doQ_put (by rfl)) ?_
  simp only [pickEnts, pickF, List.getElem?_cons_succ, List.getElem?_cons_zero, List.filterMap_cons, List.filterMap_nil, Option.map_some]
  repeat ((first | refine flow_calm (fun K hK => ?_) | refine flow_free (fun K hK => ?_) | refine float_calm (fun K hK => ?_) | refine float_free (fun K hK => ?_)); go_simp; (try simp only [Hwr.out, Hin.out, Htn.out, if_true]); first | (refine hK _ ?_; clear hK K) | (apply Exists.intro; (refine ⟨fun X => ?_, hK _ ?_⟩); (first | (intro hC; rfl) | rfl | (intro hC; have k2 := K2.out.later hC.out; have k1 := (K1.out.later hC.out).cell 0 _ rfl; have k4 := (K4.out.later hC.out).cell 3 _ rfl; have c0 := k2.cell 0 _ rfl; have c1 := k2.cell 1 _ rfl; have c2 := k2.cell 2 _ rfl; have c3 := k2.cell 3 _ rfl; have c4 := k2.cell 4 _ rfl; have c5 := k2.cell 5 _ rfl; have c6 := k2.cell 6 _ rfl; have c7 := k2.cell 7 _ rfl; have c8 := k2.cell 8 _ rfl; have c9 := k2.cell 9 _ rfl; have c10 := k2.cell 10 _ rfl; go_simp; done) | (intro hC; have k2 := K2.out.later hC.out; have k1 := (K1.out.later hC.out).cell 0 _ rfl; have k4 := (K4.out.later hC.out).cell 3 _ rfl; have c0 := k2.cell 0 _ rfl; have c1 := k2.cell 1 _ rfl; have c2 := k2.cell 2 _ rfl; have c3 := k2.cell 3 _ rfl; have c4 := k2.cell 4 _ rfl; have c5 := k2.cell 5 _ rfl; have c6 := k2.cell 6 _ rfl; have c7 := k2.cell 7 _ rfl; have c8 := k2.cell 8 _ rfl; have c9 := k2.cell 9 _ rfl; have c10 := k2.cell 10 _ rfl; go_simp; rfl) | skip); clear hK K))
  refine flow_fence rfl (fun X hX K hK => ?_)
  go_simp
  have hBX := below_step hB2 hX.out
  refine (Hop.out X (Hd.out.later hBX) (Nat.le_trans hh hBX.size)).mono ?_
  rintro e w3 (⟨vf3, vl3, rs3, rfl, hD3, hK3⟩ | ⟨d1, ⟨vf3, vl3, rs3, rfl, hD3, hK3⟩, hok, hd', ho1, hs0, hs1, hl1⟩)
  · have hK4 : Kp h0 w w3 := (Kp.of hBX hh).trans hK3
    refine hK.out _ _ (fun Z => DOwn h0 Z b vf3 vl3 rs3 d' ∧ Kp h0 w Z ∧ h0 ≤ Z.heap.size ∧ Cells Z (w.heap.size + 1 + 1) #[.bool false] 4) (fun Z => DOwn h0 Z b vf3 vl3 rs3 d' ∧ Kp h0 w Z ∧ h0 ≤ Z.heap.size ∧ Cells Z (w.heap.size + 1 + 1) #[.bool false] 4) (fun Z Z' hZ hb => ⟨hZ.1.later hb, hZ.2.1.later hb hZ.2.2.1, Nat.le_trans hZ.2.2.1 hb.size, hZ.2.2.2.later hb⟩) (fun _ h => h) ⟨hD3, hK4, by have := hK4.size; omega, hK3.cells (K3.out.later hX.out) bool_other⟩ ?_
    clear hK K hX hBX hD3 hK3 hK4
    refine flow_fence rfl (fun X hX K hK => ?_)
    obtain ⟨hD, hKp, hz, hc⟩ := hX.out
    have q0 := hc.cell 0 _ rfl
    have qf := hc.frozen 0
    go_simp
    have hK4 : Kp h0 w (X.setCell ⟨w.heap.size + 1 + 1, 0, none⟩ (.bool ok)) := hKp.setNew (p := ⟨w.heap.size + 1 + 1, 0, none⟩) (by simp; omega) (by simp; omega) _
    refine hK.out _ _ (fun Z => DOwn h0 Z b vf3 vl3 rs3 d' ∧ Kp h0 w Z ∧ h0 ≤ Z.heap.size ∧ Cells Z (w.heap.size + 1 + 1) #[.bool ok] 4) (fun Z => DOwn h0 Z b vf3 vl3 rs3 d' ∧ Kp h0 w Z ∧ h0 ≤ Z.heap.size ∧ Cells Z (w.heap.size + 1 + 1) #[.bool ok] 4) (fun Z Z' hZ hb => ⟨hZ.1.later hb, hZ.2.1.later hb hZ.2.2.1, Nat.le_trans hZ.2.2.1 hb.size, hZ.2.2.2.later hb⟩) (fun _ h => h) ⟨hD.setOther (p := ⟨w.heap.size + 1 + 1, 0, none⟩) hc bool_other _, hK4, by have := hK4.size; omega, hc.set _⟩ ?_
    refine flow_nilQ ?_
    intro Z hZ
    obtain ⟨hD4, hK5, -, hc5⟩ := hZ.out
    clear hZ hX hD hKp hc q0 qf hK4 hK K
    have z0 := hc5.cell 0 _ rfl
    go_wp2
    refine leaves_cons (f := 73) (args := #[.pointer (some ⟨w.heap.size, 0, none⟩), .pointer (some ⟨w.heap.size + 1 + 1, 0, none⟩)]) (by simp) (by simp [go_sem]) ?_
    refine (seg_do1_idle _ _ _).mono ?_
    rintro e u' w'' ⟨rfl, rfl, rfl⟩
    have hfin : DiskPost h0 b ok d' w (.returned (.bool ok)) w'' := ⟨_, _, _, rfl, hD4, hK5⟩
    simp [Leaves, settle, results, Try.results48, go_sem, z0]
    exact hfin
  · have hK4 : Kp h0 w w3 := (Kp.of hBX hh).trans hK3
    exact ⟨⟨rfl, rfl⟩, rfl, d1, ⟨vf3, vl3, rs3, hD3⟩, hK4, hK3.cells (K1.out.later hX.out) (by unfold Mine; decide), hK3.cells (K3.out.later hX.out) bool_other, hok, hd', ho1, hs0, hs1, hl1⟩
set_option maxRecDepth 100000 in
set_option maxHeartbeats 8000000 in
theorem seg_do5 (d : SDisk) (h0 : Nat) (b : Nat) (vf vl : Value) (rs : List RF) (i : Nat) (s : SStep) (ok : Bool) (d' : SDisk) (w : World) (hd : DOwn h0 w b vf vl rs d) (hh : h0 ≤ w.heap.size) (hs : s.do_ = 5)
    (hop : ∀ X, DOwn h0 X b vf vl rs d → h0 ≤ X.heap.size → Calls Try.prog 71 #[.pointer (some ⟨b, 0, none⟩), .agg #[.int .i64 5, .int .i64 s.k, .int .i64 s.stop, .bool s.torn, .int .i64 s.news.do_, .int .i64 s.news.src, .int .i64 s.news.id, .int .i64 s.news.ver, .int .i64 s.news.body.at_, .int .i64 s.news.body.key, .int .i64 s.news.body.val]] X (OpPost h0 b i ok d' X)) :
    Calls Try.prog 48 #[.pointer (some ⟨b, 0, none⟩), .agg #[.int .i64 5, .int .i64 s.k, .int .i64 s.stop, .bool s.torn, .int .i64 s.news.do_, .int .i64 s.news.src, .int .i64 s.news.id, .int .i64 s.news.ver, .int .i64 s.news.body.at_, .int .i64 s.news.body.key, .int .i64 s.news.body.val]] w (DiskPost h0 b ok d' w) := by
  obtain ⟨Af, cf, Al, cl, rfl, rfl, hda⟩ := hd.reads
  have Hd := Lib.hid hd
  have Hda := Lib.hid hda
  have Hop := Lib.hid hop
  have Hs := Lib.hid hs
  have hw : True := trivial
  clear hd hda hop hw hs
  have hmf : ∀ (fn : Fn) (first cap : Array Value) (w : World), (Instr.makeFunc fn first cap).run Try.prog w = .ok (.func fn first cap) w := fun _ _ _ _ => rfl
  have hsf : ∀ (a : Addr) (fn : Fn) (first cap : Array Value) (m : Mode) (w : World), (store a (.func fn first cap) m).run Try.prog w = stored Try.prog w a (.func fn first cap) m := fun _ _ _ _ _ _ => run_store _ _ _ _ _ rfl
  have hW : Cells ((((w.alloc (.cells #[.pointer (some ⟨b, 0, none⟩)] 77)).alloc (.cells #[.int .i64 5, .int .i64 s.k, .int .i64 s.stop, .bool s.torn, .int .i64 s.news.do_, .int .i64 s.news.src, .int .i64 s.news.id, .int .i64 s.news.ver, .int .i64 s.news.body.at_, .int .i64 s.news.body.key, .int .i64 s.news.body.val] 58)).alloc (.cells #[.bool false] 4)).alloc (.cells #[.nilFunc, .nilFunc, .nilFunc, .nilFunc, .nilFunc, .nilFunc] 107)) (w.heap.size + 1 + 1 + 1) #[.nilFunc, .nilFunc, .nilFunc, .nilFunc, .nilFunc, .nilFunc] 107 := by
    have h := Cells.new (((w.alloc (.cells #[.pointer (some ⟨b, 0, none⟩)] 77)).alloc (.cells #[.int .i64 5, .int .i64 s.k, .int .i64 s.stop, .bool s.torn, .int .i64 s.news.do_, .int .i64 s.news.src, .int .i64 s.news.id, .int .i64 s.news.ver, .int .i64 s.news.body.at_, .int .i64 s.news.body.key, .int .i64 s.news.body.val] 58)).alloc (.cells #[.bool false] 4)) #[.nilFunc, .nilFunc, .nilFunc, .nilFunc, .nilFunc, .nilFunc] 107
    simpa using h
  have x0 := hW.cell 0 _ rfl
  have x1 := hW.cell 1 _ rfl
  have x2 := hW.cell 2 _ rfl
  have x3 := hW.cell 3 _ rfl
  have x4 := hW.cell 4 _ rfl
  have x5 := hW.cell 5 _ rfl
  have y0 := hW.frozen 0
  have y1 := hW.frozen 1
  have y2 := hW.frozen 2
  have y3 := hW.frozen 3
  have y4 := hW.frozen 4
  have y5 := hW.frozen 5
  have HBK := Lib.hid (show Below w.heap.size w ((((w.alloc (.cells #[.pointer (some ⟨b, 0, none⟩)] 77)).alloc (.cells #[.int .i64 5, .int .i64 s.k, .int .i64 s.stop, .bool s.torn, .int .i64 s.news.do_, .int .i64 s.news.src, .int .i64 s.news.id, .int .i64 s.news.ver, .int .i64 s.news.body.at_, .int .i64 s.news.body.key, .int .i64 s.news.body.val] 58)).alloc (.cells #[.bool false] 4)).alloc (.cells #[.func (.func 67) #[] #[], .func (.func 68) #[] #[], .func (.func 69) #[] #[], .func (.func 70) #[] #[], .func (.func 71) #[] #[], .func (.func 72) #[] #[]] 107)) from below_alloc (below_alloc (below_alloc (below_alloc (Below.refl _ _) _) _) _) _)
  have HX := Lib.hid (show ∀ X, Below (w.heap.size + 1 + 1 + 1 + 1) ((((w.alloc (.cells #[.pointer (some ⟨b, 0, none⟩)] 77)).alloc (.cells #[.int .i64 5, .int .i64 s.k, .int .i64 s.stop, .bool s.torn, .int .i64 s.news.do_, .int .i64 s.news.src, .int .i64 s.news.id, .int .i64 s.news.ver, .int .i64 s.news.body.at_, .int .i64 s.news.body.key, .int .i64 s.news.body.val] 58)).alloc (.cells #[.bool false] 4)).alloc (.cells #[.func (.func 67) #[] #[], .func (.func 68) #[] #[], .func (.func 69) #[] #[], .func (.func 70) #[] #[], .func (.func 71) #[] #[], .func (.func 72) #[] #[]] 107)) X → Cells X w.heap.size #[.pointer (some ⟨b, 0, none⟩)] 77 ∧ Cells X (w.heap.size + 1) #[.int .i64 5, .int .i64 s.k, .int .i64 s.stop, .bool s.torn, .int .i64 s.news.do_, .int .i64 s.news.src, .int .i64 s.news.id, .int .i64 s.news.ver, .int .i64 s.news.body.at_, .int .i64 s.news.body.key, .int .i64 s.news.body.val] 58 ∧ Cells X (w.heap.size + 1 + 1) #[.bool false] 4 ∧ Cells X (w.heap.size + 1 + 1 + 1) #[.func (.func 67) #[] #[], .func (.func 68) #[] #[], .func (.func 69) #[] #[], .func (.func 70) #[] #[], .func (.func 71) #[] #[], .func (.func 72) #[] #[]] 107 ∧ Below w.heap.size w X from fun X hX => four_new w X _ _ _ _ _ _ _ _ hX)
  go_enter_defers Try.func48, Try.ntmps48
  have hX2 := HX.out _ (Below.refl _ _)
  go_wp2
  generalize ((((w.alloc (.cells #[.pointer (some ⟨b, 0, none⟩)] 77)).alloc (.cells #[.int .i64 5, .int .i64 s.k, .int .i64 s.stop, .bool s.torn, .int .i64 s.news.do_, .int .i64 s.news.src, .int .i64 s.news.id, .int .i64 s.news.ver, .int .i64 s.news.body.at_, .int .i64 s.news.body.key, .int .i64 s.news.body.val] 58)).alloc (.cells #[.bool false] 4)).alloc (.cells #[.func (.func 67) #[] #[], .func (.func 68) #[] #[], .func (.func 69) #[] #[], .func (.func 70) #[] #[], .func (.func 71) #[] #[], .func (.func 72) #[] #[]] 107)) = w2 at hX2 ⊢
  obtain ⟨k1, k2, k3, k4, hB2⟩ := hX2
  have K1 := Lib.hid k1
  have K2 := Lib.hid k2
  have K3 := Lib.hid k3
  have K4 := Lib.hid k4
  clear k1 k2 k3 k4 x0 x1 x2 x3 x4 x5 y0 y1 y2 y3 y4 y5 hW HX HBK
  refine doQ_mono (Ds := [{ target := .fn (.func 73) #[.pointer (some ⟨w.heap.size, 0, none⟩), .pointer (some ⟨w.heap.size + 1 + 1, 0, none⟩)], args := #[] }]) (p4 := .pointer (some ⟨w.heap.size + 1 + 1, 0, none⟩))
    (Pn := fun c w' => c = [{ v := .iface 109 (.agg #[]), recovered := false }] ∧ ∃ d1 vf vl rs, DOwn h0 w' b vf vl rs d1 ∧ Kp h0 w w' ∧ Cells w' w.heap.size #[.pointer (some ⟨b, 0, none⟩)] 77 ∧ Cells w' (w.heap.size + 1 + 1) #[.bool false] 4 ∧ ok = true ∧ d' = crashD d1 i 0 false ∧ OpenOk d1 i ∧ 0 ≤ (fileAt d1 i).safe ∧ (fileAt d1 i).safe ≤ (fileAt d1 i).recs.length ∧ (fileAt d1 i).recs.length ≤ 100000) ?_ ?_
  · rintro c a w' hdef h4 ⟨rfl, d1, vf1, vl1, rs1, hD1, hK1, hp1, hq1, rfl, rfl, ho1, hs0, hs1, hl1⟩
    refine (show Leaves Try.prog _ a.tmps (DiskPost h0 b true (crashD d1 i 0 false) w) a.defers (.panicking [{ v := .iface 109 (.agg #[]), recovered := false }]) w' from ?_)
    rw [hdef]
    refine leaves_cons (f := 73) (args := #[.pointer (some ⟨w.heap.size, 0, none⟩), .pointer (some ⟨w.heap.size + 1 + 1, 0, none⟩)]) (by simp) (by simp [go_sem]) ?_
    refine (seg_do1_panic d1 h0 b vf1 vl1 rs1 i _ _ false w' hD1 ho1 hs0 hs1 hl1 (by have := hK1.size; omega) (hp1.cell 0 _ rfl) hq1).mono ?_
    rintro e u' w'' ⟨rfl, rfl, vf2, vl2, rs2, w1, hD2, hK2, rfl⟩
    have hc2 := (hK2.cells hq1 bool_other).set (.bool true)
    have z0 := hc2.cell 0 _ rfl
    have hfin : DiskPost h0 b true (crashD d1 i 0 false) w (.returned (.bool true)) (w1.setCell ⟨w.heap.size + 1 + 1, 0, none⟩ (.bool true)) := ⟨_, _, _, rfl, hD2.setOther (p := ⟨w.heap.size + 1 + 1, 0, none⟩) (hK2.cells hq1 bool_other) bool_other _, (hK1.trans hK2).setNew (p := ⟨w.heap.size + 1 + 1, 0, none⟩) (by simp; omega) (by simp; omega) _⟩
    have h4' : a.tmps.getD 4 undef = .pointer (some ⟨w.heap.size + 1 + 1, 0, none⟩) := by rw [Array.getD_eq_getD_getElem?, h4]; rfl
    simp [Leaves, settle, results, Try.results48, go_sem, h4, z0]
    exact hfin
  have Hwr := Lib.hid (show IntKind.i64.wrap 4 = 4 by decide)
  have Hin := Lib.hid (eq_true (show ((0 : Int) ≤ 4 ∧ (4 : Int) < 6) by decide))
  have Htn := Lib.hid (show (4 : Int).toNat = 4 by decide)
  refine wp_region_flowP [.free 0, .calm 1, .free 2, .free 3, .calm 4, .calm 5, .calm 6, .fence 7, .fence 8] (Below w2.heap.size w2) (Below w2.heap.size w2) (stable_below _ _ (Nat.le_refl _)) (fun _ h => h) (by kernel_rfl) (by kernel_rfl) (below_drew1 (Below.refl _ _)) (doQ_put (by rfl)) ?_
  simp only [pickEnts, pickF, List.getElem?_cons_succ, List.getElem?_cons_zero, List.filterMap_cons, List.filterMap_nil, Option.map_some]
  repeat ((first | refine flow_calm (fun K hK => ?_) | refine flow_free (fun K hK => ?_) | refine float_calm (fun K hK => ?_) | refine float_free (fun K hK => ?_)); go_simp; (try simp only [Hwr.out, Hin.out, Htn.out, if_true]); first | (refine hK _ ?_; clear hK K) | (apply Exists.intro; (refine ⟨fun X => ?_, hK _ ?_⟩); (first | (intro hC; rfl) | rfl | (intro hC; have k2 := K2.out.later hC.out; have k1 := (K1.out.later hC.out).cell 0 _ rfl; have k4 := (K4.out.later hC.out).cell 4 _ rfl; have c0 := k2.cell 0 _ rfl; have c1 := k2.cell 1 _ rfl; have c2 := k2.cell 2 _ rfl; have c3 := k2.cell 3 _ rfl; have c4 := k2.cell 4 _ rfl; have c5 := k2.cell 5 _ rfl; have c6 := k2.cell 6 _ rfl; have c7 := k2.cell 7 _ rfl; have c8 := k2.cell 8 _ rfl; have c9 := k2.cell 9 _ rfl; have c10 := k2.cell 10 _ rfl; go_simp; done) | (intro hC; have k2 := K2.out.later hC.out; have k1 := (K1.out.later hC.out).cell 0 _ rfl; have k4 := (K4.out.later hC.out).cell 4 _ rfl; have c0 := k2.cell 0 _ rfl; have c1 := k2.cell 1 _ rfl; have c2 := k2.cell 2 _ rfl; have c3 := k2.cell 3 _ rfl; have c4 := k2.cell 4 _ rfl; have c5 := k2.cell 5 _ rfl; have c6 := k2.cell 6 _ rfl; have c7 := k2.cell 7 _ rfl; have c8 := k2.cell 8 _ rfl; have c9 := k2.cell 9 _ rfl; have c10 := k2.cell 10 _ rfl; go_simp; rfl) | skip); clear hK K))
  refine flow_fence rfl (fun X hX K hK => ?_)
  go_simp
  have hBX := below_step hB2 hX.out
  refine (Hop.out X (Hd.out.later hBX) (Nat.le_trans hh hBX.size)).mono ?_
  rintro e w3 (⟨vf3, vl3, rs3, rfl, hD3, hK3⟩ | ⟨d1, ⟨vf3, vl3, rs3, rfl, hD3, hK3⟩, hok, hd', ho1, hs0, hs1, hl1⟩)
  · have hK4 : Kp h0 w w3 := (Kp.of hBX hh).trans hK3
    refine hK.out _ _ (fun Z => DOwn h0 Z b vf3 vl3 rs3 d' ∧ Kp h0 w Z ∧ h0 ≤ Z.heap.size ∧ Cells Z (w.heap.size + 1 + 1) #[.bool false] 4) (fun Z => DOwn h0 Z b vf3 vl3 rs3 d' ∧ Kp h0 w Z ∧ h0 ≤ Z.heap.size ∧ Cells Z (w.heap.size + 1 + 1) #[.bool false] 4) (fun Z Z' hZ hb => ⟨hZ.1.later hb, hZ.2.1.later hb hZ.2.2.1, Nat.le_trans hZ.2.2.1 hb.size, hZ.2.2.2.later hb⟩) (fun _ h => h) ⟨hD3, hK4, by have := hK4.size; omega, hK3.cells (K3.out.later hX.out) bool_other⟩ ?_
    clear hK K hX hBX hD3 hK3 hK4
    refine flow_fence rfl (fun X hX K hK => ?_)
    obtain ⟨hD, hKp, hz, hc⟩ := hX.out
    have q0 := hc.cell 0 _ rfl
    have qf := hc.frozen 0
    go_simp
    have hK4 : Kp h0 w (X.setCell ⟨w.heap.size + 1 + 1, 0, none⟩ (.bool ok)) := hKp.setNew (p := ⟨w.heap.size + 1 + 1, 0, none⟩) (by simp; omega) (by simp; omega) _
    refine hK.out _ _ (fun Z => DOwn h0 Z b vf3 vl3 rs3 d' ∧ Kp h0 w Z ∧ h0 ≤ Z.heap.size ∧ Cells Z (w.heap.size + 1 + 1) #[.bool ok] 4) (fun Z => DOwn h0 Z b vf3 vl3 rs3 d' ∧ Kp h0 w Z ∧ h0 ≤ Z.heap.size ∧ Cells Z (w.heap.size + 1 + 1) #[.bool ok] 4) (fun Z Z' hZ hb => ⟨hZ.1.later hb, hZ.2.1.later hb hZ.2.2.1, Nat.le_trans hZ.2.2.1 hb.size, hZ.2.2.2.later hb⟩) (fun _ h => h) ⟨hD.setOther (p := ⟨w.heap.size + 1 + 1, 0, none⟩) hc bool_other _, hK4, by have := hK4.size; omega, hc.set _⟩ ?_
    refine flow_nilQ ?_
    intro Z hZ
    obtain ⟨hD4, hK5, -, hc5⟩ := hZ.out
    clear hZ hX hD hKp hc q0 qf hK4 hK K
    have z0 := hc5.cell 0 _ rfl
    go_wp2
    refine leaves_cons (f := 73) (args := #[.pointer (some ⟨w.heap.size, 0, none⟩), .pointer (some ⟨w.heap.size + 1 + 1, 0, none⟩)]) (by simp) (by simp [go_sem]) ?_
    refine (seg_do1_idle _ _ _).mono ?_
    rintro e u' w'' ⟨rfl, rfl, rfl⟩
    have hfin : DiskPost h0 b ok d' w (.returned (.bool ok)) w'' := ⟨_, _, _, rfl, hD4, hK5⟩
    simp [Leaves, settle, results, Try.results48, go_sem, z0]
    exact hfin
  · have hK4 : Kp h0 w w3 := (Kp.of hBX hh).trans hK3
    exact ⟨⟨rfl, rfl⟩, rfl, d1, ⟨vf3, vl3, rs3, hD3⟩, hK4, hK3.cells (K1.out.later hX.out) (by unfold Mine; decide), hK3.cells (K3.out.later hX.out) bool_other, hok, hd', ho1, hs0, hs1, hl1⟩
set_option maxRecDepth 100000 in
set_option maxHeartbeats 8000000 in
theorem seg_do6 (d : SDisk) (h0 : Nat) (b : Nat) (vf vl : Value) (rs : List RF) (i : Nat) (s : SStep) (ok : Bool) (d' : SDisk) (w : World) (hd : DOwn h0 w b vf vl rs d) (hh : h0 ≤ w.heap.size) (hs : s.do_ = 6)
    (hop : ∀ X, DOwn h0 X b vf vl rs d → h0 ≤ X.heap.size → Calls Try.prog 72 #[.pointer (some ⟨b, 0, none⟩), .agg #[.int .i64 6, .int .i64 s.k, .int .i64 s.stop, .bool s.torn, .int .i64 s.news.do_, .int .i64 s.news.src, .int .i64 s.news.id, .int .i64 s.news.ver, .int .i64 s.news.body.at_, .int .i64 s.news.body.key, .int .i64 s.news.body.val]] X (OpPost h0 b i ok d' X)) :
    Calls Try.prog 48 #[.pointer (some ⟨b, 0, none⟩), .agg #[.int .i64 6, .int .i64 s.k, .int .i64 s.stop, .bool s.torn, .int .i64 s.news.do_, .int .i64 s.news.src, .int .i64 s.news.id, .int .i64 s.news.ver, .int .i64 s.news.body.at_, .int .i64 s.news.body.key, .int .i64 s.news.body.val]] w (DiskPost h0 b ok d' w) := by
  obtain ⟨Af, cf, Al, cl, rfl, rfl, hda⟩ := hd.reads
  have Hd := Lib.hid hd
  have Hda := Lib.hid hda
  have Hop := Lib.hid hop
  have Hs := Lib.hid hs
  have hw : True := trivial
  clear hd hda hop hw hs
  have hmf : ∀ (fn : Fn) (first cap : Array Value) (w : World), (Instr.makeFunc fn first cap).run Try.prog w = .ok (.func fn first cap) w := fun _ _ _ _ => rfl
  have hsf : ∀ (a : Addr) (fn : Fn) (first cap : Array Value) (m : Mode) (w : World), (store a (.func fn first cap) m).run Try.prog w = stored Try.prog w a (.func fn first cap) m := fun _ _ _ _ _ _ => run_store _ _ _ _ _ rfl
  have hW : Cells ((((w.alloc (.cells #[.pointer (some ⟨b, 0, none⟩)] 77)).alloc (.cells #[.int .i64 6, .int .i64 s.k, .int .i64 s.stop, .bool s.torn, .int .i64 s.news.do_, .int .i64 s.news.src, .int .i64 s.news.id, .int .i64 s.news.ver, .int .i64 s.news.body.at_, .int .i64 s.news.body.key, .int .i64 s.news.body.val] 58)).alloc (.cells #[.bool false] 4)).alloc (.cells #[.nilFunc, .nilFunc, .nilFunc, .nilFunc, .nilFunc, .nilFunc] 107)) (w.heap.size + 1 + 1 + 1) #[.nilFunc, .nilFunc, .nilFunc, .nilFunc, .nilFunc, .nilFunc] 107 := by
    have h := Cells.new (((w.alloc (.cells #[.pointer (some ⟨b, 0, none⟩)] 77)).alloc (.cells #[.int .i64 6, .int .i64 s.k, .int .i64 s.stop, .bool s.torn, .int .i64 s.news.do_, .int .i64 s.news.src, .int .i64 s.news.id, .int .i64 s.news.ver, .int .i64 s.news.body.at_, .int .i64 s.news.body.key, .int .i64 s.news.body.val] 58)).alloc (.cells #[.bool false] 4)) #[.nilFunc, .nilFunc, .nilFunc, .nilFunc, .nilFunc, .nilFunc] 107
    simpa using h
  have x0 := hW.cell 0 _ rfl
  have x1 := hW.cell 1 _ rfl
  have x2 := hW.cell 2 _ rfl
  have x3 := hW.cell 3 _ rfl
  have x4 := hW.cell 4 _ rfl
  have x5 := hW.cell 5 _ rfl
  have y0 := hW.frozen 0
  have y1 := hW.frozen 1
  have y2 := hW.frozen 2
  have y3 := hW.frozen 3
  have y4 := hW.frozen 4
  have y5 := hW.frozen 5
  have HBK := Lib.hid (show Below w.heap.size w ((((w.alloc (.cells #[.pointer (some ⟨b, 0, none⟩)] 77)).alloc (.cells #[.int .i64 6, .int .i64 s.k, .int .i64 s.stop, .bool s.torn, .int .i64 s.news.do_, .int .i64 s.news.src, .int .i64 s.news.id, .int .i64 s.news.ver, .int .i64 s.news.body.at_, .int .i64 s.news.body.key, .int .i64 s.news.body.val] 58)).alloc (.cells #[.bool false] 4)).alloc (.cells #[.func (.func 67) #[] #[], .func (.func 68) #[] #[], .func (.func 69) #[] #[], .func (.func 70) #[] #[], .func (.func 71) #[] #[], .func (.func 72) #[] #[]] 107)) from below_alloc (below_alloc (below_alloc (below_alloc (Below.refl _ _) _) _) _) _)
  have HX := Lib.hid (show ∀ X, Below (w.heap.size + 1 + 1 + 1 + 1) ((((w.alloc (.cells #[.pointer (some ⟨b, 0, none⟩)] 77)).alloc (.cells #[.int .i64 6, .int .i64 s.k, .int .i64 s.stop, .bool s.torn, .int .i64 s.news.do_, .int .i64 s.news.src, .int .i64 s.news.id, .int .i64 s.news.ver, .int .i64 s.news.body.at_, .int .i64 s.news.body.key, .int .i64 s.news.body.val] 58)).alloc (.cells #[.bool false] 4)).alloc (.cells #[.func (.func 67) #[] #[], .func (.func 68) #[] #[], .func (.func 69) #[] #[], .func (.func 70) #[] #[], .func (.func 71) #[] #[], .func (.func 72) #[] #[]] 107)) X → Cells X w.heap.size #[.pointer (some ⟨b, 0, none⟩)] 77 ∧ Cells X (w.heap.size + 1) #[.int .i64 6, .int .i64 s.k, .int .i64 s.stop, .bool s.torn, .int .i64 s.news.do_, .int .i64 s.news.src, .int .i64 s.news.id, .int .i64 s.news.ver, .int .i64 s.news.body.at_, .int .i64 s.news.body.key, .int .i64 s.news.body.val] 58 ∧ Cells X (w.heap.size + 1 + 1) #[.bool false] 4 ∧ Cells X (w.heap.size + 1 + 1 + 1) #[.func (.func 67) #[] #[], .func (.func 68) #[] #[], .func (.func 69) #[] #[], .func (.func 70) #[] #[], .func (.func 71) #[] #[], .func (.func 72) #[] #[]] 107 ∧ Below w.heap.size w X from fun X hX => four_new w X _ _ _ _ _ _ _ _ hX)
  go_enter_defers Try.func48, Try.ntmps48
  have hX2 := HX.out _ (Below.refl _ _)
  go_wp2
  generalize ((((w.alloc (.cells #[.pointer (some ⟨b, 0, none⟩)] 77)).alloc (.cells #[.int .i64 6, .int .i64 s.k, .int .i64 s.stop, .bool s.torn, .int .i64 s.news.do_, .int .i64 s.news.src, .int .i64 s.news.id, .int .i64 s.news.ver, .int .i64 s.news.body.at_, .int .i64 s.news.body.key, .int .i64 s.news.body.val] 58)).alloc (.cells #[.bool false] 4)).alloc (.cells #[.func (.func 67) #[] #[], .func (.func 68) #[] #[], .func (.func 69) #[] #[], .func (.func 70) #[] #[], .func (.func 71) #[] #[], .func (.func 72) #[] #[]] 107)) = w2 at hX2 ⊢
  obtain ⟨k1, k2, k3, k4, hB2⟩ := hX2
  have K1 := Lib.hid k1
  have K2 := Lib.hid k2
  have K3 := Lib.hid k3
  have K4 := Lib.hid k4
  clear k1 k2 k3 k4 x0 x1 x2 x3 x4 x5 y0 y1 y2 y3 y4 y5 hW HX HBK
  refine doQ_mono (Ds := [{ target := .fn (.func 73) #[.pointer (some ⟨w.heap.size, 0, none⟩), .pointer (some ⟨w.heap.size + 1 + 1, 0, none⟩)], args := #[] }]) (p4 := .pointer (some ⟨w.heap.size + 1 + 1, 0, none⟩))
    (Pn := fun c w' => c = [{ v := .iface 109 (.agg #[]), recovered := false }] ∧ ∃ d1 vf vl rs, DOwn h0 w' b vf vl rs d1 ∧ Kp h0 w w' ∧ Cells w' w.heap.size #[.pointer (some ⟨b, 0, none⟩)] 77 ∧ Cells w' (w.heap.size + 1 + 1) #[.bool false] 4 ∧ ok = true ∧ d' = crashD d1 i 0 false ∧ OpenOk d1 i ∧ 0 ≤ (fileAt d1 i).safe ∧ (fileAt d1 i).safe ≤ (fileAt d1 i).recs.length ∧ (fileAt d1 i).recs.length ≤ 100000) ?_ ?_
  · rintro c a w' hdef h4 ⟨rfl, d1, vf1, vl1, rs1, hD1, hK1, hp1, hq1, rfl, rfl, ho1, hs0, hs1, hl1⟩
    refine (show Leaves Try.prog _ a.tmps (DiskPost h0 b true (crashD d1 i 0 false) w) a.defers (.panicking [{ v := .iface 109 (.agg #[]), recovered := false }]) w' from ?_)
    rw [hdef]
    refine leaves_cons (f := 73) (args := #[.pointer (some ⟨w.heap.size, 0, none⟩), .pointer (some ⟨w.heap.size + 1 + 1, 0, none⟩)]) (by simp) (by simp [go_sem]) ?_
    refine (seg_do1_panic d1 h0 b vf1 vl1 rs1 i _ _ false w' hD1 ho1 hs0 hs1 hl1 (by have := hK1.size; omega) (hp1.cell 0 _ rfl) hq1).mono ?_
    rintro e u' w'' ⟨rfl, rfl, vf2, vl2, rs2, w1, hD2, hK2, rfl⟩
    have hc2 := (hK2.cells hq1 bool_other).set (.bool true)
    have z0 := hc2.cell 0 _ rfl
    have hfin : DiskPost h0 b true (crashD d1 i 0 false) w (.returned (.bool true)) (w1.setCell ⟨w.heap.size + 1 + 1, 0, none⟩ (.bool true)) := ⟨_, _, _, rfl, hD2.setOther (p := ⟨w.heap.size + 1 + 1, 0, none⟩) (hK2.cells hq1 bool_other) bool_other _, (hK1.trans hK2).setNew (p := ⟨w.heap.size + 1 + 1, 0, none⟩) (by simp; omega) (by simp; omega) _⟩
    have h4' : a.tmps.getD 4 undef = .pointer (some ⟨w.heap.size + 1 + 1, 0, none⟩) := by rw [Array.getD_eq_getD_getElem?, h4]; rfl
    simp [Leaves, settle, results, Try.results48, go_sem, h4, z0]
    exact hfin
  have Hwr := Lib.hid (show IntKind.i64.wrap 5 = 5 by decide)
  have Hin := Lib.hid (eq_true (show ((0 : Int) ≤ 5 ∧ (5 : Int) < 6) by decide))
  have Htn := Lib.hid (show (5 : Int).toNat = 5 by decide)
  refine wp_region_flowP [.free 0, .calm 1, .free 2, .free 3, .calm 4, .calm 5, .calm 6, .fence 7, .fence 8] (Below w2.heap.size w2) (Below w2.heap.size w2) (stable_below _ _ (Nat.le_refl _)) (fun _ h => h) (by kernel_rfl) (by kernel_rfl) (below_drew1 (Below.refl _ _)) (doQ_put (by rfl)) ?_
  simp only [pickEnts, pickF, List.getElem?_cons_succ, List.getElem?_cons_zero, List.filterMap_cons, List.filterMap_nil, Option.map_some]
  repeat ((first | refine flow_calm (fun K hK => ?_) | refine flow_free (fun K hK => ?_) | refine float_calm (fun K hK => ?_) | refine float_free (fun K hK => ?_)); go_simp; (try simp only [Hwr.out, Hin.out, Htn.out, if_true]); first | (refine hK _ ?_; clear hK K) | (apply Exists.intro; (refine ⟨fun X => ?_, hK _ ?_⟩); (first | (intro hC; rfl) | rfl | (intro hC; have k2 := K2.out.later hC.out; have k1 := (K1.out.later hC.out).cell 0 _ rfl; have k4 := (K4.out.later hC.out).cell 5 _ rfl; have c0 := k2.cell 0 _ rfl; have c1 := k2.cell 1 _ rfl; have c2 := k2.cell 2 _ rfl; have c3 := k2.cell 3 _ rfl; have c4 := k2.cell 4 _ rfl; have c5 := k2.cell 5 _ rfl; have c6 := k2.cell 6 _ rfl; have c7 := k2.cell 7 _ rfl; have c8 := k2.cell 8 _ rfl; have c9 := k2.cell 9 _ rfl; have c10 := k2.cell 10 _ rfl; go_simp; done) | (intro hC; have k2 := K2.out.later hC.out; have k1 := (K1.out.later hC.out).cell 0 _ rfl; have k4 := (K4.out.later hC.out).cell 5 _ rfl; have c0 := k2.cell 0 _ rfl; have c1 := k2.cell 1 _ rfl; have c2 := k2.cell 2 _ rfl; have c3 := k2.cell 3 _ rfl; have c4 := k2.cell 4 _ rfl; have c5 := k2.cell 5 _ rfl; have c6 := k2.cell 6 _ rfl; have c7 := k2.cell 7 _ rfl; have c8 := k2.cell 8 _ rfl; have c9 := k2.cell 9 _ rfl; have c10 := k2.cell 10 _ rfl; go_simp; rfl) | skip); clear hK K))
  refine flow_fence rfl (fun X hX K hK => ?_)
  go_simp
  have hBX := below_step hB2 hX.out
  refine (Hop.out X (Hd.out.later hBX) (Nat.le_trans hh hBX.size)).mono ?_
  rintro e w3 (⟨vf3, vl3, rs3, rfl, hD3, hK3⟩ | ⟨d1, ⟨vf3, vl3, rs3, rfl, hD3, hK3⟩, hok, hd', ho1, hs0, hs1, hl1⟩)
  · have hK4 : Kp h0 w w3 := (Kp.of hBX hh).trans hK3
    refine hK.out _ _ (fun Z => DOwn h0 Z b vf3 vl3 rs3 d' ∧ Kp h0 w Z ∧ h0 ≤ Z.heap.size ∧ Cells Z (w.heap.size + 1 + 1) #[.bool false] 4) (fun Z => DOwn h0 Z b vf3 vl3 rs3 d' ∧ Kp h0 w Z ∧ h0 ≤ Z.heap.size ∧ Cells Z (w.heap.size + 1 + 1) #[.bool false] 4) (fun Z Z' hZ hb => ⟨hZ.1.later hb, hZ.2.1.later hb hZ.2.2.1, Nat.le_trans hZ.2.2.1 hb.size, hZ.2.2.2.later hb⟩) (fun _ h => h) ⟨hD3, hK4, by have := hK4.size; omega, hK3.cells (K3.out.later hX.out) bool_other⟩ ?_
    clear hK K hX hBX hD3 hK3 hK4
    refine flow_fence rfl (fun X hX K hK => ?_)
    obtain ⟨hD, hKp, hz, hc⟩ := hX.out
    have q0 := hc.cell 0 _ rfl
    have qf := hc.frozen 0
    go_simp
    have hK4 : Kp h0 w (X.setCell ⟨w.heap.size + 1 + 1, 0, none⟩ (.bool ok)) := hKp.setNew (p := ⟨w.heap.size + 1 + 1, 0, none⟩) (by simp; omega) (by simp; omega) _
    refine hK.out _ _ (fun Z => DOwn h0 Z b vf3 vl3 rs3 d' ∧ Kp h0 w Z ∧ h0 ≤ Z.heap.size ∧ Cells Z (w.heap.size + 1 + 1) #[.bool ok] 4) (fun Z => DOwn h0 Z b vf3 vl3 rs3 d' ∧ Kp h0 w Z ∧ h0 ≤ Z.heap.size ∧ Cells Z (w.heap.size + 1 + 1) #[.bool ok] 4) (fun Z Z' hZ hb => ⟨hZ.1.later hb, hZ.2.1.later hb hZ.2.2.1, Nat.le_trans hZ.2.2.1 hb.size, hZ.2.2.2.later hb⟩) (fun _ h => h) ⟨hD.setOther (p := ⟨w.heap.size + 1 + 1, 0, none⟩) hc bool_other _, hK4, by have := hK4.size; omega, hc.set _⟩ ?_
    refine flow_nilQ ?_
    intro Z hZ
    obtain ⟨hD4, hK5, -, hc5⟩ := hZ.out
    clear hZ hX hD hKp hc q0 qf hK4 hK K
    have z0 := hc5.cell 0 _ rfl
    go_wp2
    refine leaves_cons (f := 73) (args := #[.pointer (some ⟨w.heap.size, 0, none⟩), .pointer (some ⟨w.heap.size + 1 + 1, 0, none⟩)]) (by simp) (by simp [go_sem]) ?_
    refine (seg_do1_idle _ _ _).mono ?_
    rintro e u' w'' ⟨rfl, rfl, rfl⟩
    have hfin : DiskPost h0 b ok d' w (.returned (.bool ok)) w'' := ⟨_, _, _, rfl, hD4, hK5⟩
    simp [Leaves, settle, results, Try.results48, go_sem, z0]
    exact hfin
  · have hK4 : Kp h0 w w3 := (Kp.of hBX hh).trans hK3
    exact ⟨⟨rfl, rfl⟩, rfl, d1, ⟨vf3, vl3, rs3, hD3⟩, hK4, hK3.cells (K1.out.later hX.out) (by unfold Mine; decide), hK3.cells (K3.out.later hX.out) bool_other, hok, hd', ho1, hs0, hs1, hl1⟩
set_option maxRecDepth 100000 in
set_option maxHeartbeats 8000000 in
theorem seg_do_no (d : SDisk) (h0 : Nat) (b : Nat) (vf vl : Value) (rs : List RF) (s : SStep) (w : World) (hd : DOwn h0 w b vf vl rs d) (hh : h0 ≤ w.heap.size) (h5 : s.do_ ≠ 5) (h6 : s.do_ ≠ 6) (hw : wholeB d = false) :
    Calls Try.prog 48 #[.pointer (some ⟨b, 0, none⟩), .agg #[.int .i64 s.do_, .int .i64 s.k, .int .i64 s.stop, .bool s.torn, .int .i64 s.news.do_, .int .i64 s.news.src, .int .i64 s.news.id, .int .i64 s.news.ver, .int .i64 s.news.body.at_, .int .i64 s.news.body.key, .int .i64 s.news.body.val]] w (DiskPost h0 b false d w) := by
  obtain ⟨Af, cf, Al, cl, rfl, rfl, hda⟩ := hd.reads
  have Hd := Lib.hid hd
  have Hda := Lib.hid hda
  have Hw := Lib.hid hw
  have b5 : (s.do_ != 5) = true := by simpa using h5
  have b6 : (s.do_ != 6) = true := by simpa using h6
  clear hd hda hw
  have hmf : ∀ (fn : Fn) (first cap : Array Value) (w : World), (Instr.makeFunc fn first cap).run Try.prog w = .ok (.func fn first cap) w := fun _ _ _ _ => rfl
  have hsf : ∀ (a : Addr) (fn : Fn) (first cap : Array Value) (m : Mode) (w : World), (store a (.func fn first cap) m).run Try.prog w = stored Try.prog w a (.func fn first cap) m := fun _ _ _ _ _ _ => run_store _ _ _ _ _ rfl
  have hW : Cells ((((w.alloc (.cells #[.pointer (some ⟨b, 0, none⟩)] 77)).alloc (.cells #[.int .i64 s.do_, .int .i64 s.k, .int .i64 s.stop, .bool s.torn, .int .i64 s.news.do_, .int .i64 s.news.src, .int .i64 s.news.id, .int .i64 s.news.ver, .int .i64 s.news.body.at_, .int .i64 s.news.body.key, .int .i64 s.news.body.val] 58)).alloc (.cells #[.bool false] 4)).alloc (.cells #[.nilFunc, .nilFunc, .nilFunc, .nilFunc, .nilFunc, .nilFunc] 107)) (w.heap.size + 1 + 1 + 1) #[.nilFunc, .nilFunc, .nilFunc, .nilFunc, .nilFunc, .nilFunc] 107 := by
    have h := Cells.new (((w.alloc (.cells #[.pointer (some ⟨b, 0, none⟩)] 77)).alloc (.cells #[.int .i64 s.do_, .int .i64 s.k, .int .i64 s.stop, .bool s.torn, .int .i64 s.news.do_, .int .i64 s.news.src, .int .i64 s.news.id, .int .i64 s.news.ver, .int .i64 s.news.body.at_, .int .i64 s.news.body.key, .int .i64 s.news.body.val] 58)).alloc (.cells #[.bool false] 4)) #[.nilFunc, .nilFunc, .nilFunc, .nilFunc, .nilFunc, .nilFunc] 107
    simpa using h
  have x0 := hW.cell 0 _ rfl
  have x1 := hW.cell 1 _ rfl
  have x2 := hW.cell 2 _ rfl
  have x3 := hW.cell 3 _ rfl
  have x4 := hW.cell 4 _ rfl
  have x5 := hW.cell 5 _ rfl
  have y0 := hW.frozen 0
  have y1 := hW.frozen 1
  have y2 := hW.frozen 2
  have y3 := hW.frozen 3
  have y4 := hW.frozen 4
  have y5 := hW.frozen 5
  have HBK := Lib.hid (show Below w.heap.size w ((((w.alloc (.cells #[.pointer (some ⟨b, 0, none⟩)] 77)).alloc (.cells #[.int .i64 s.do_, .int .i64 s.k, .int .i64 s.stop, .bool s.torn, .int .i64 s.news.do_, .int .i64 s.news.src, .int .i64 s.news.id, .int .i64 s.news.ver, .int .i64 s.news.body.at_, .int .i64 s.news.body.key, .int .i64 s.news.body.val] 58)).alloc (.cells #[.bool false] 4)).alloc (.cells #[.func (.func 67) #[] #[], .func (.func 68) #[] #[], .func (.func 69) #[] #[], .func (.func 70) #[] #[], .func (.func 71) #[] #[], .func (.func 72) #[] #[]] 107)) from below_alloc (below_alloc (below_alloc (below_alloc (Below.refl _ _) _) _) _) _)
  have HX := Lib.hid (show ∀ X, Below (w.heap.size + 1 + 1 + 1 + 1) ((((w.alloc (.cells #[.pointer (some ⟨b, 0, none⟩)] 77)).alloc (.cells #[.int .i64 s.do_, .int .i64 s.k, .int .i64 s.stop, .bool s.torn, .int .i64 s.news.do_, .int .i64 s.news.src, .int .i64 s.news.id, .int .i64 s.news.ver, .int .i64 s.news.body.at_, .int .i64 s.news.body.key, .int .i64 s.news.body.val] 58)).alloc (.cells #[.bool false] 4)).alloc (.cells #[.func (.func 67) #[] #[], .func (.func 68) #[] #[], .func (.func 69) #[] #[], .func (.func 70) #[] #[], .func (.func 71) #[] #[], .func (.func 72) #[] #[]] 107)) X → Cells X w.heap.size #[.pointer (some ⟨b, 0, none⟩)] 77 ∧ Cells X (w.heap.size + 1) #[.int .i64 s.do_, .int .i64 s.k, .int .i64 s.stop, .bool s.torn, .int .i64 s.news.do_, .int .i64 s.news.src, .int .i64 s.news.id, .int .i64 s.news.ver, .int .i64 s.news.body.at_, .int .i64 s.news.body.key, .int .i64 s.news.body.val] 58 ∧ Cells X (w.heap.size + 1 + 1) #[.bool false] 4 ∧ Cells X (w.heap.size + 1 + 1 + 1) #[.func (.func 67) #[] #[], .func (.func 68) #[] #[], .func (.func 69) #[] #[], .func (.func 70) #[] #[], .func (.func 71) #[] #[], .func (.func 72) #[] #[]] 107 ∧ Below w.heap.size w X from fun X hX => four_new w X _ _ _ _ _ _ _ _ hX)
  go_enter_defers Try.func48, Try.ntmps48
  go_wp2_with (first
    | (go_at_call 44; refine (seg_whole d b _ _ _ _ _ (Hda.out.later HBK.out)).mono ?_; rintro e w2 ⟨rfl, hb2⟩; rw [Hw.out]; have hX2 := HX.out w2 (by simpa using hb2); obtain ⟨k1, k2, k3, k4, hB2⟩ := hX2; have c0 := k3.cell 0 _ rfl; have cf := k3.frozen 0))
  have hc2 := k3.set (.bool false)
  have z0 := hc2.cell 0 _ rfl
  have hfin : DiskPost h0 b false d w (.returned (.bool false)) (w2.setCell ⟨w.heap.size + 1 + 1, 0, none⟩ (.bool false)) := ⟨_, _, _, rfl, (Hd.out.later hB2).setOther (p := ⟨w.heap.size + 1 + 1, 0, none⟩) k3 bool_other _, (Kp.of hB2 hh).setNew (p := ⟨w.heap.size + 1 + 1, 0, none⟩) (by simp; omega) (by simp; omega) _⟩
  simp [bodyPostD, Leaves, settle, results, Try.results48, go_sem, z0]
  exact hfin
end Go.Proofs.Ytfmojgdomficlaa
set_option linter.unusedVariables false
set_option linter.unusedSimpArgs false
/-! Whether a step fits. -/
namespace Go.Proofs.Ytfmojgdomficlaa
open Go.RowKit Go.Shelf Go.Proofs.YtfmojgdomficlaaW.PrintWords

def noNews : News := ⟨0, 0, 0, 0, ⟨0, 0, 0⟩⟩
/-- A step that is no step of its kind. -/
def oddB (s : SStep) : Prop := s.k < 0 ∨ s.stop < 0 ∨ 2 < s.stop ∨ (s.do_ ≠ 4 ∧ s.stop ≠ 0) ∨ (s.do_ ≠ 5 ∧ s.torn = true) ∨ (s.do_ ≠ 1 ∧ newsEq s.news noNews = false)
instance (s : SStep) : Decidable (oddB s) := by unfold oddB; infer_instance
def fitsB (s : SStep) : Bool := if oddB s then false else if s.do_ = 1 then decide (s.k = 0) && formedB [s.news] 4 else if s.do_ = 2 ∨ s.do_ = 3 ∨ s.do_ = 6 then decide (s.k = 0) else decide (s.do_ = 4 ∨ s.do_ = 5)
theorem fits_odd {s : SStep} (h : oddB s) : fitsB s = false := by rw [fitsB, if_pos h]
set_option maxRecDepth 100000 in
set_option maxHeartbeats 8000000 in
theorem seg_fits_1 (k stop : Int) (torn : Bool) (n0 n1 n2 n3 n4 n5 n6 : Int) (w : World) :
    Calls Try.prog 46 #[.agg #[.int .i64 1, .int .i64 k, .int .i64 stop, .bool torn, .int .i64 n0, .int .i64 n1, .int .i64 n2, .int .i64 n3, .int .i64 n4, .int .i64 n5, .int .i64 n6]] w fun e w' => e = .returned (.bool (fitsB ⟨1, k, stop, torn, ⟨n0, n1, n2, n3, ⟨n4, n5, n6⟩⟩⟩)) ∧ Below w.heap.size w w' := by
  by_cases hk : k < 0
  · have bk : decide (k < 0) = true := by simpa using hk
    rw [fits_odd (show oddB ⟨1, k, stop, torn, ⟨n0, n1, n2, n3, ⟨n4, n5, n6⟩⟩⟩ from .inl hk)]
    go_enter Try.func46, Try.ntmps46
    go_wp2
    go_ret
    exact ⟨rfl, (by repeat (first | exact Below.refl _ _ | assumption | apply below_alloc | apply below_drew1 | apply pw_below_drewN | refine below_step ?_ (by assumption)))⟩
  · have bk : decide (k < 0) = false := by simpa using hk
    by_cases hs : stop < 0
    · have bs : decide (stop < 0) = true := by simpa using hs
      rw [fits_odd (show oddB ⟨1, k, stop, torn, ⟨n0, n1, n2, n3, ⟨n4, n5, n6⟩⟩⟩ from .inr (.inl hs))]
      go_enter Try.func46, Try.ntmps46
      go_wp2
      go_ret
      exact ⟨rfl, (by repeat (first | exact Below.refl _ _ | assumption | apply below_alloc | apply below_drew1 | apply pw_below_drewN | refine below_step ?_ (by assumption)))⟩
    · have bs : decide (stop < 0) = false := by simpa using hs
      by_cases ht : 2 < stop
      · have bt : decide (2 < stop) = true := by simpa using ht
        rw [fits_odd (show oddB ⟨1, k, stop, torn, ⟨n0, n1, n2, n3, ⟨n4, n5, n6⟩⟩⟩ from .inr (.inr (.inl ht)))]
        go_enter Try.func46, Try.ntmps46
        go_wp2
        go_ret
        exact ⟨rfl, (by repeat (first | exact Below.refl _ _ | assumption | apply below_alloc | apply below_drew1 | apply pw_below_drewN | refine below_step ?_ (by assumption)))⟩
      · have bt : decide (2 < stop) = false := by simpa using ht
        by_cases h0 : stop ≠ 0
        · skip
          have b0 : (stop == 0) = false := by simpa using h0
          rw [fits_odd (show oddB ⟨1, k, stop, torn, ⟨n0, n1, n2, n3, ⟨n4, n5, n6⟩⟩⟩ from .inr (.inr (.inr (.inl ⟨(by simp), h0⟩))))]
          go_enter Try.func46, Try.ntmps46
          go_wp2
          go_ret
          exact ⟨rfl, (by repeat (first | exact Below.refl _ _ | assumption | apply below_alloc | apply below_drew1 | apply pw_below_drewN | refine below_step ?_ (by assumption)))⟩
        obtain rfl : stop = 0 := by simpa using h0
        by_cases hn : torn = true
        · subst hn
          rw [fits_odd (show oddB ⟨1, k, 0, true, ⟨n0, n1, n2, n3, ⟨n4, n5, n6⟩⟩⟩ from .inr (.inr (.inr (.inr (.inl ⟨(by simp), rfl⟩)))))]
          go_enter Try.func46, Try.ntmps46
          go_wp2
          go_ret
          exact ⟨rfl, (by repeat (first | exact Below.refl _ _ | assumption | apply below_alloc | apply below_drew1 | apply pw_below_drewN | refine below_step ?_ (by assumption)))⟩
        obtain rfl : torn = false := by simpa using hn
        have hno : ¬ oddB ⟨1, k, 0, false, ⟨n0, n1, n2, n3, ⟨n4, n5, n6⟩⟩⟩ := by
          rintro (h | h | h | h | h | h)
          · exact hk h
          · exact hs h
          · exact ht h
          · exact h.2 rfl
          · exact absurd h.2 (by simp)
          · exact h.1 rfl
        by_cases h1 : k = 0
        · subst h1
          have hf : fitsB ⟨1, 0, 0, false, ⟨n0, n1, n2, n3, ⟨n4, n5, n6⟩⟩⟩ = formedB [⟨n0, n1, n2, n3, ⟨n4, n5, n6⟩⟩] 4 := by rw [fitsB, if_neg hno, if_pos rfl]; simp
          rw [hf]
          have HCl := Lib.hid (show Cells ((w.alloc (.cells #[.int .i64 1, .int .i64 0, .int .i64 0, .bool false, .int .i64 n0, .int .i64 n1, .int .i64 n2, .int .i64 n3, .int .i64 n4, .int .i64 n5, .int .i64 n6] 58)).alloc (.cells #[.int .i64 n0, .int .i64 n1, .int .i64 n2, .int .i64 n3, .int .i64 n4, .int .i64 n5, .int .i64 n6] 26)) (w.heap.size + 1) #[.int .i64 n0, .int .i64 n1, .int .i64 n2, .int .i64 n3, .int .i64 n4, .int .i64 n5, .int .i64 n6] 26 by have h := Cells.new (w.alloc (.cells #[.int .i64 1, .int .i64 0, .int .i64 0, .bool false, .int .i64 n0, .int .i64 n1, .int .i64 n2, .int .i64 n3, .int .i64 n4, .int .i64 n5, .int .i64 n6] 58)) #[.int .i64 n0, .int .i64 n1, .int .i64 n2, .int .i64 n3, .int .i64 n4, .int .i64 n5, .int .i64 n6] 26; simpa using h)
          cases hq : formedB [⟨n0, n1, n2, n3, ⟨n4, n5, n6⟩⟩] 4
          · have Hq := Lib.hid hq
            clear hq
            go_enter Try.func46, Try.ntmps46
            go_wp2_with (first
                | (go_at_call 63; refine (hist_check [⟨n0, n1, n2, n3, ⟨n4, n5, n6⟩⟩] (some ⟨w.heap.size + 1, 0, none⟩) 1 4 _ (lit_row kNews _ (w.heap.size + 1) ⟨n0, n1, n2, n3, ⟨n4, n5, n6⟩⟩ [.int .i64 n0, .int .i64 n1, .int .i64 n2, .int .i64 n3, .int .i64 n4, .int .i64 n5, .int .i64 n6] 26 HCl.out (kNews_mk _ _)) (Nat.le_refl _)).mono ?_; rintro e w4 ⟨rfl, hb4⟩; rw [Hq.out]))
            go_ret
            exact ⟨rfl, below_step (below_alloc (below_alloc (Below.refl _ _) _) _) (by simpa using hb4)⟩
          · have Hq := Lib.hid hq
            clear hq
            go_enter Try.func46, Try.ntmps46
            go_wp2_with (first
                | (go_at_call 63; refine (hist_check [⟨n0, n1, n2, n3, ⟨n4, n5, n6⟩⟩] (some ⟨w.heap.size + 1, 0, none⟩) 1 4 _ (lit_row kNews _ (w.heap.size + 1) ⟨n0, n1, n2, n3, ⟨n4, n5, n6⟩⟩ [.int .i64 n0, .int .i64 n1, .int .i64 n2, .int .i64 n3, .int .i64 n4, .int .i64 n5, .int .i64 n6] 26 HCl.out (kNews_mk _ _)) (Nat.le_refl _)).mono ?_; rintro e w4 ⟨rfl, hb4⟩; rw [Hq.out]))
            go_ret
            exact ⟨rfl, below_step (below_alloc (below_alloc (Below.refl _ _) _) _) (by simpa using hb4)⟩
        · have b1 : (k == 0) = false := by simpa using h1
          have hf : fitsB ⟨1, k, 0, false, ⟨n0, n1, n2, n3, ⟨n4, n5, n6⟩⟩⟩ = false := by rw [fitsB, if_neg hno, if_pos rfl]; simp [h1]
          rw [hf]
          go_enter Try.func46, Try.ntmps46
          go_wp2
          go_ret
          exact ⟨rfl, (by repeat (first | exact Below.refl _ _ | assumption | apply below_alloc | apply below_drew1 | apply pw_below_drewN | refine below_step ?_ (by assumption)))⟩
set_option maxRecDepth 100000 in
set_option maxHeartbeats 8000000 in
theorem seg_fits_2 (k stop : Int) (torn : Bool) (n0 n1 n2 n3 n4 n5 n6 : Int) (w : World) :
    Calls Try.prog 46 #[.agg #[.int .i64 2, .int .i64 k, .int .i64 stop, .bool torn, .int .i64 n0, .int .i64 n1, .int .i64 n2, .int .i64 n3, .int .i64 n4, .int .i64 n5, .int .i64 n6]] w fun e w' => e = .returned (.bool (fitsB ⟨2, k, stop, torn, ⟨n0, n1, n2, n3, ⟨n4, n5, n6⟩⟩⟩)) ∧ Below w.heap.size w w' := by
  by_cases hk : k < 0
  · have bk : decide (k < 0) = true := by simpa using hk
    rw [fits_odd (show oddB ⟨2, k, stop, torn, ⟨n0, n1, n2, n3, ⟨n4, n5, n6⟩⟩⟩ from .inl hk)]
    go_enter Try.func46, Try.ntmps46
    go_wp2
    go_ret
    exact ⟨rfl, (by repeat (first | exact Below.refl _ _ | assumption | apply below_alloc | apply below_drew1 | apply pw_below_drewN | refine below_step ?_ (by assumption)))⟩
  · have bk : decide (k < 0) = false := by simpa using hk
    by_cases hs : stop < 0
    · have bs : decide (stop < 0) = true := by simpa using hs
      rw [fits_odd (show oddB ⟨2, k, stop, torn, ⟨n0, n1, n2, n3, ⟨n4, n5, n6⟩⟩⟩ from .inr (.inl hs))]
      go_enter Try.func46, Try.ntmps46
      go_wp2
      go_ret
      exact ⟨rfl, (by repeat (first | exact Below.refl _ _ | assumption | apply below_alloc | apply below_drew1 | apply pw_below_drewN | refine below_step ?_ (by assumption)))⟩
    · have bs : decide (stop < 0) = false := by simpa using hs
      by_cases ht : 2 < stop
      · have bt : decide (2 < stop) = true := by simpa using ht
        rw [fits_odd (show oddB ⟨2, k, stop, torn, ⟨n0, n1, n2, n3, ⟨n4, n5, n6⟩⟩⟩ from .inr (.inr (.inl ht)))]
        go_enter Try.func46, Try.ntmps46
        go_wp2
        go_ret
        exact ⟨rfl, (by repeat (first | exact Below.refl _ _ | assumption | apply below_alloc | apply below_drew1 | apply pw_below_drewN | refine below_step ?_ (by assumption)))⟩
      · have bt : decide (2 < stop) = false := by simpa using ht
        by_cases h0 : stop ≠ 0
        · skip
          have b0 : (stop == 0) = false := by simpa using h0
          rw [fits_odd (show oddB ⟨2, k, stop, torn, ⟨n0, n1, n2, n3, ⟨n4, n5, n6⟩⟩⟩ from .inr (.inr (.inr (.inl ⟨(by simp), h0⟩))))]
          go_enter Try.func46, Try.ntmps46
          go_wp2
          go_ret
          exact ⟨rfl, (by repeat (first | exact Below.refl _ _ | assumption | apply below_alloc | apply below_drew1 | apply pw_below_drewN | refine below_step ?_ (by assumption)))⟩
        obtain rfl : stop = 0 := by simpa using h0
        by_cases hn : torn = true
        · subst hn
          rw [fits_odd (show oddB ⟨2, k, 0, true, ⟨n0, n1, n2, n3, ⟨n4, n5, n6⟩⟩⟩ from .inr (.inr (.inr (.inr (.inl ⟨(by simp), rfl⟩)))))]
          go_enter Try.func46, Try.ntmps46
          go_wp2
          go_ret
          exact ⟨rfl, (by repeat (first | exact Below.refl _ _ | assumption | apply below_alloc | apply below_drew1 | apply pw_below_drewN | refine below_step ?_ (by assumption)))⟩
        obtain rfl : torn = false := by simpa using hn
        cases hz : newsEq ⟨n0, n1, n2, n3, ⟨n4, n5, n6⟩⟩ ⟨0, 0, 0, 0, ⟨0, 0, 0⟩⟩
        · skip
          rw [fits_odd (show oddB ⟨2, k, 0, false, ⟨n0, n1, n2, n3, ⟨n4, n5, n6⟩⟩⟩ from .inr (.inr (.inr (.inr (.inr (⟨(by simp), hz⟩))))))]
          go_enter Try.func46, Try.ntmps46
          go_wp2
          go_ret
          exact ⟨rfl, (by repeat (first | exact Below.refl _ _ | assumption | apply below_alloc | apply below_drew1 | apply pw_below_drewN | refine below_step ?_ (by assumption)))⟩
        have hno : ¬ oddB ⟨2, k, 0, false, ⟨n0, n1, n2, n3, ⟨n4, n5, n6⟩⟩⟩ := by
          rintro (h | h | h | h | h | h)
          · exact hk h
          · exact hs h
          · exact ht h
          · exact h.2 rfl
          · exact absurd h.2 (by simp)
          · have h2 : newsEq ⟨n0, n1, n2, n3, ⟨n4, n5, n6⟩⟩ ⟨0, 0, 0, 0, ⟨0, 0, 0⟩⟩ = false := h.2; rw [hz] at h2; cases h2
        by_cases h1 : k = 0
        · subst h1
          have hf : fitsB ⟨2, 0, 0, false, ⟨n0, n1, n2, n3, ⟨n4, n5, n6⟩⟩⟩ = true := by rw [fitsB, if_neg hno]; simp
          rw [hf]
          go_enter Try.func46, Try.ntmps46
          go_wp2
          go_ret
          exact ⟨rfl, (by repeat (first | exact Below.refl _ _ | assumption | apply below_alloc | apply below_drew1 | apply pw_below_drewN | refine below_step ?_ (by assumption)))⟩
        · have b1 : (k == 0) = false := by simpa using h1
          have hf : fitsB ⟨2, k, 0, false, ⟨n0, n1, n2, n3, ⟨n4, n5, n6⟩⟩⟩ = false := by rw [fitsB, if_neg hno]; simp [h1]
          rw [hf]
          go_enter Try.func46, Try.ntmps46
          go_wp2
          go_ret
          exact ⟨rfl, (by repeat (first | exact Below.refl _ _ | assumption | apply below_alloc | apply below_drew1 | apply pw_below_drewN | refine below_step ?_ (by assumption)))⟩
set_option maxRecDepth 100000 in
set_option maxHeartbeats 8000000 in
theorem seg_fits_3 (k stop : Int) (torn : Bool) (n0 n1 n2 n3 n4 n5 n6 : Int) (w : World) :
    Calls Try.prog 46 #[.agg #[.int .i64 3, .int .i64 k, .int .i64 stop, .bool torn, .int .i64 n0, .int .i64 n1, .int .i64 n2, .int .i64 n3, .int .i64 n4, .int .i64 n5, .int .i64 n6]] w fun e w' => e = .returned (.bool (fitsB ⟨3, k, stop, torn, ⟨n0, n1, n2, n3, ⟨n4, n5, n6⟩⟩⟩)) ∧ Below w.heap.size w w' := by
  by_cases hk : k < 0
  · have bk : decide (k < 0) = true := by simpa using hk
    rw [fits_odd (show oddB ⟨3, k, stop, torn, ⟨n0, n1, n2, n3, ⟨n4, n5, n6⟩⟩⟩ from .inl hk)]
    go_enter Try.func46, Try.ntmps46
    go_wp2
    go_ret
    exact ⟨rfl, (by repeat (first | exact Below.refl _ _ | assumption | apply below_alloc | apply below_drew1 | apply pw_below_drewN | refine below_step ?_ (by assumption)))⟩
  · have bk : decide (k < 0) = false := by simpa using hk
    by_cases hs : stop < 0
    · have bs : decide (stop < 0) = true := by simpa using hs
      rw [fits_odd (show oddB ⟨3, k, stop, torn, ⟨n0, n1, n2, n3, ⟨n4, n5, n6⟩⟩⟩ from .inr (.inl hs))]
      go_enter Try.func46, Try.ntmps46
      go_wp2
      go_ret
      exact ⟨rfl, (by repeat (first | exact Below.refl _ _ | assumption | apply below_alloc | apply below_drew1 | apply pw_below_drewN | refine below_step ?_ (by assumption)))⟩
    · have bs : decide (stop < 0) = false := by simpa using hs
      by_cases ht : 2 < stop
      · have bt : decide (2 < stop) = true := by simpa using ht
        rw [fits_odd (show oddB ⟨3, k, stop, torn, ⟨n0, n1, n2, n3, ⟨n4, n5, n6⟩⟩⟩ from .inr (.inr (.inl ht)))]
        go_enter Try.func46, Try.ntmps46
        go_wp2
        go_ret
        exact ⟨rfl, (by repeat (first | exact Below.refl _ _ | assumption | apply below_alloc | apply below_drew1 | apply pw_below_drewN | refine below_step ?_ (by assumption)))⟩
      · have bt : decide (2 < stop) = false := by simpa using ht
        by_cases h0 : stop ≠ 0
        · skip
          have b0 : (stop == 0) = false := by simpa using h0
          rw [fits_odd (show oddB ⟨3, k, stop, torn, ⟨n0, n1, n2, n3, ⟨n4, n5, n6⟩⟩⟩ from .inr (.inr (.inr (.inl ⟨(by simp), h0⟩))))]
          go_enter Try.func46, Try.ntmps46
          go_wp2
          go_ret
          exact ⟨rfl, (by repeat (first | exact Below.refl _ _ | assumption | apply below_alloc | apply below_drew1 | apply pw_below_drewN | refine below_step ?_ (by assumption)))⟩
        obtain rfl : stop = 0 := by simpa using h0
        by_cases hn : torn = true
        · subst hn
          rw [fits_odd (show oddB ⟨3, k, 0, true, ⟨n0, n1, n2, n3, ⟨n4, n5, n6⟩⟩⟩ from .inr (.inr (.inr (.inr (.inl ⟨(by simp), rfl⟩)))))]
          go_enter Try.func46, Try.ntmps46
          go_wp2
          go_ret
          exact ⟨rfl, (by repeat (first | exact Below.refl _ _ | assumption | apply below_alloc | apply below_drew1 | apply pw_below_drewN | refine below_step ?_ (by assumption)))⟩
        obtain rfl : torn = false := by simpa using hn
        cases hz : newsEq ⟨n0, n1, n2, n3, ⟨n4, n5, n6⟩⟩ ⟨0, 0, 0, 0, ⟨0, 0, 0⟩⟩
        · skip
          rw [fits_odd (show oddB ⟨3, k, 0, false, ⟨n0, n1, n2, n3, ⟨n4, n5, n6⟩⟩⟩ from .inr (.inr (.inr (.inr (.inr (⟨(by simp), hz⟩))))))]
          go_enter Try.func46, Try.ntmps46
          go_wp2
          go_ret
          exact ⟨rfl, (by repeat (first | exact Below.refl _ _ | assumption | apply below_alloc | apply below_drew1 | apply pw_below_drewN | refine below_step ?_ (by assumption)))⟩
        have hno : ¬ oddB ⟨3, k, 0, false, ⟨n0, n1, n2, n3, ⟨n4, n5, n6⟩⟩⟩ := by
          rintro (h | h | h | h | h | h)
          · exact hk h
          · exact hs h
          · exact ht h
          · exact h.2 rfl
          · exact absurd h.2 (by simp)
          · have h2 : newsEq ⟨n0, n1, n2, n3, ⟨n4, n5, n6⟩⟩ ⟨0, 0, 0, 0, ⟨0, 0, 0⟩⟩ = false := h.2; rw [hz] at h2; cases h2
        by_cases h1 : k = 0
        · subst h1
          have hf : fitsB ⟨3, 0, 0, false, ⟨n0, n1, n2, n3, ⟨n4, n5, n6⟩⟩⟩ = true := by rw [fitsB, if_neg hno]; simp
          rw [hf]
          go_enter Try.func46, Try.ntmps46
          go_wp2
          go_ret
          exact ⟨rfl, (by repeat (first | exact Below.refl _ _ | assumption | apply below_alloc | apply below_drew1 | apply pw_below_drewN | refine below_step ?_ (by assumption)))⟩
        · have b1 : (k == 0) = false := by simpa using h1
          have hf : fitsB ⟨3, k, 0, false, ⟨n0, n1, n2, n3, ⟨n4, n5, n6⟩⟩⟩ = false := by rw [fitsB, if_neg hno]; simp [h1]
          rw [hf]
          go_enter Try.func46, Try.ntmps46
          go_wp2
          go_ret
          exact ⟨rfl, (by repeat (first | exact Below.refl _ _ | assumption | apply below_alloc | apply below_drew1 | apply pw_below_drewN | refine below_step ?_ (by assumption)))⟩
set_option maxRecDepth 100000 in
set_option maxHeartbeats 8000000 in
theorem seg_fits_4 (k stop : Int) (torn : Bool) (n0 n1 n2 n3 n4 n5 n6 : Int) (w : World) :
    Calls Try.prog 46 #[.agg #[.int .i64 4, .int .i64 k, .int .i64 stop, .bool torn, .int .i64 n0, .int .i64 n1, .int .i64 n2, .int .i64 n3, .int .i64 n4, .int .i64 n5, .int .i64 n6]] w fun e w' => e = .returned (.bool (fitsB ⟨4, k, stop, torn, ⟨n0, n1, n2, n3, ⟨n4, n5, n6⟩⟩⟩)) ∧ Below w.heap.size w w' := by
  by_cases hk : k < 0
  · have bk : decide (k < 0) = true := by simpa using hk
    rw [fits_odd (show oddB ⟨4, k, stop, torn, ⟨n0, n1, n2, n3, ⟨n4, n5, n6⟩⟩⟩ from .inl hk)]
    go_enter Try.func46, Try.ntmps46
    go_wp2
    go_ret
    exact ⟨rfl, (by repeat (first | exact Below.refl _ _ | assumption | apply below_alloc | apply below_drew1 | apply pw_below_drewN | refine below_step ?_ (by assumption)))⟩
  · have bk : decide (k < 0) = false := by simpa using hk
    by_cases hs : stop < 0
    · have bs : decide (stop < 0) = true := by simpa using hs
      rw [fits_odd (show oddB ⟨4, k, stop, torn, ⟨n0, n1, n2, n3, ⟨n4, n5, n6⟩⟩⟩ from .inr (.inl hs))]
      go_enter Try.func46, Try.ntmps46
      go_wp2
      go_ret
      exact ⟨rfl, (by repeat (first | exact Below.refl _ _ | assumption | apply below_alloc | apply below_drew1 | apply pw_below_drewN | refine below_step ?_ (by assumption)))⟩
    · have bs : decide (stop < 0) = false := by simpa using hs
      by_cases ht : 2 < stop
      · have bt : decide (2 < stop) = true := by simpa using ht
        rw [fits_odd (show oddB ⟨4, k, stop, torn, ⟨n0, n1, n2, n3, ⟨n4, n5, n6⟩⟩⟩ from .inr (.inr (.inl ht)))]
        go_enter Try.func46, Try.ntmps46
        go_wp2
        go_ret
        exact ⟨rfl, (by repeat (first | exact Below.refl _ _ | assumption | apply below_alloc | apply below_drew1 | apply pw_below_drewN | refine below_step ?_ (by assumption)))⟩
      · have bt : decide (2 < stop) = false := by simpa using ht
        by_cases hn : torn = true
        · subst hn
          rw [fits_odd (show oddB ⟨4, k, stop, true, ⟨n0, n1, n2, n3, ⟨n4, n5, n6⟩⟩⟩ from .inr (.inr (.inr (.inr (.inl ⟨(by simp), rfl⟩)))))]
          go_enter Try.func46, Try.ntmps46
          go_wp2
          go_ret
          exact ⟨rfl, (by repeat (first | exact Below.refl _ _ | assumption | apply below_alloc | apply below_drew1 | apply pw_below_drewN | refine below_step ?_ (by assumption)))⟩
        obtain rfl : torn = false := by simpa using hn
        cases hz : newsEq ⟨n0, n1, n2, n3, ⟨n4, n5, n6⟩⟩ ⟨0, 0, 0, 0, ⟨0, 0, 0⟩⟩
        · skip
          rw [fits_odd (show oddB ⟨4, k, stop, false, ⟨n0, n1, n2, n3, ⟨n4, n5, n6⟩⟩⟩ from .inr (.inr (.inr (.inr (.inr (⟨(by simp), hz⟩))))))]
          go_enter Try.func46, Try.ntmps46
          go_wp2
          go_ret
          exact ⟨rfl, (by repeat (first | exact Below.refl _ _ | assumption | apply below_alloc | apply below_drew1 | apply pw_below_drewN | refine below_step ?_ (by assumption)))⟩
        have hno : ¬ oddB ⟨4, k, stop, false, ⟨n0, n1, n2, n3, ⟨n4, n5, n6⟩⟩⟩ := by
          rintro (h | h | h | h | h | h)
          · exact hk h
          · exact hs h
          · exact ht h
          · exact h.1 rfl
          · exact absurd h.2 (by simp)
          · have h2 : newsEq ⟨n0, n1, n2, n3, ⟨n4, n5, n6⟩⟩ ⟨0, 0, 0, 0, ⟨0, 0, 0⟩⟩ = false := h.2; rw [hz] at h2; cases h2
        have hf : fitsB ⟨4, k, stop, false, ⟨n0, n1, n2, n3, ⟨n4, n5, n6⟩⟩⟩ = true := by rw [fitsB, if_neg hno]; simp
        rw [hf]
        go_enter Try.func46, Try.ntmps46
        go_wp2
        go_ret
        exact ⟨rfl, (by repeat (first | exact Below.refl _ _ | assumption | apply below_alloc | apply below_drew1 | apply pw_below_drewN | refine below_step ?_ (by assumption)))⟩
set_option maxRecDepth 100000 in
set_option maxHeartbeats 8000000 in
theorem seg_fits_5 (k stop : Int) (torn : Bool) (n0 n1 n2 n3 n4 n5 n6 : Int) (w : World) :
    Calls Try.prog 46 #[.agg #[.int .i64 5, .int .i64 k, .int .i64 stop, .bool torn, .int .i64 n0, .int .i64 n1, .int .i64 n2, .int .i64 n3, .int .i64 n4, .int .i64 n5, .int .i64 n6]] w fun e w' => e = .returned (.bool (fitsB ⟨5, k, stop, torn, ⟨n0, n1, n2, n3, ⟨n4, n5, n6⟩⟩⟩)) ∧ Below w.heap.size w w' := by
  by_cases hk : k < 0
  · have bk : decide (k < 0) = true := by simpa using hk
    rw [fits_odd (show oddB ⟨5, k, stop, torn, ⟨n0, n1, n2, n3, ⟨n4, n5, n6⟩⟩⟩ from .inl hk)]
    go_enter Try.func46, Try.ntmps46
    go_wp2
    go_ret
    exact ⟨rfl, (by repeat (first | exact Below.refl _ _ | assumption | apply below_alloc | apply below_drew1 | apply pw_below_drewN | refine below_step ?_ (by assumption)))⟩
  · have bk : decide (k < 0) = false := by simpa using hk
    by_cases hs : stop < 0
    · have bs : decide (stop < 0) = true := by simpa using hs
      rw [fits_odd (show oddB ⟨5, k, stop, torn, ⟨n0, n1, n2, n3, ⟨n4, n5, n6⟩⟩⟩ from .inr (.inl hs))]
      go_enter Try.func46, Try.ntmps46
      go_wp2
      go_ret
      exact ⟨rfl, (by repeat (first | exact Below.refl _ _ | assumption | apply below_alloc | apply below_drew1 | apply pw_below_drewN | refine below_step ?_ (by assumption)))⟩
    · have bs : decide (stop < 0) = false := by simpa using hs
      by_cases ht : 2 < stop
      · have bt : decide (2 < stop) = true := by simpa using ht
        rw [fits_odd (show oddB ⟨5, k, stop, torn, ⟨n0, n1, n2, n3, ⟨n4, n5, n6⟩⟩⟩ from .inr (.inr (.inl ht)))]
        go_enter Try.func46, Try.ntmps46
        go_wp2
        go_ret
        exact ⟨rfl, (by repeat (first | exact Below.refl _ _ | assumption | apply below_alloc | apply below_drew1 | apply pw_below_drewN | refine below_step ?_ (by assumption)))⟩
      · have bt : decide (2 < stop) = false := by simpa using ht
        by_cases h0 : stop ≠ 0
        · skip
          have b0 : (stop == 0) = false := by simpa using h0
          rw [fits_odd (show oddB ⟨5, k, stop, torn, ⟨n0, n1, n2, n3, ⟨n4, n5, n6⟩⟩⟩ from .inr (.inr (.inr (.inl ⟨(by simp), h0⟩))))]
          go_enter Try.func46, Try.ntmps46
          go_wp2
          go_ret
          exact ⟨rfl, (by repeat (first | exact Below.refl _ _ | assumption | apply below_alloc | apply below_drew1 | apply pw_below_drewN | refine below_step ?_ (by assumption)))⟩
        obtain rfl : stop = 0 := by simpa using h0
        cases hz : newsEq ⟨n0, n1, n2, n3, ⟨n4, n5, n6⟩⟩ ⟨0, 0, 0, 0, ⟨0, 0, 0⟩⟩
        · skip
          rw [fits_odd (show oddB ⟨5, k, 0, torn, ⟨n0, n1, n2, n3, ⟨n4, n5, n6⟩⟩⟩ from .inr (.inr (.inr (.inr (.inr (⟨(by simp), hz⟩))))))]
          go_enter Try.func46, Try.ntmps46
          go_wp2
          go_ret
          exact ⟨rfl, (by repeat (first | exact Below.refl _ _ | assumption | apply below_alloc | apply below_drew1 | apply pw_below_drewN | refine below_step ?_ (by assumption)))⟩
        have hno : ¬ oddB ⟨5, k, 0, torn, ⟨n0, n1, n2, n3, ⟨n4, n5, n6⟩⟩⟩ := by
          rintro (h | h | h | h | h | h)
          · exact hk h
          · exact hs h
          · exact ht h
          · exact h.2 rfl
          · exact h.1 rfl
          · have h2 : newsEq ⟨n0, n1, n2, n3, ⟨n4, n5, n6⟩⟩ ⟨0, 0, 0, 0, ⟨0, 0, 0⟩⟩ = false := h.2; rw [hz] at h2; cases h2
        have hf : fitsB ⟨5, k, 0, torn, ⟨n0, n1, n2, n3, ⟨n4, n5, n6⟩⟩⟩ = true := by rw [fitsB, if_neg hno]; simp
        rw [hf]
        go_enter Try.func46, Try.ntmps46
        go_wp2
        go_ret
        exact ⟨rfl, (by repeat (first | exact Below.refl _ _ | assumption | apply below_alloc | apply below_drew1 | apply pw_below_drewN | refine below_step ?_ (by assumption)))⟩
set_option maxRecDepth 100000 in
set_option maxHeartbeats 8000000 in
theorem seg_fits_6 (k stop : Int) (torn : Bool) (n0 n1 n2 n3 n4 n5 n6 : Int) (w : World) :
    Calls Try.prog 46 #[.agg #[.int .i64 6, .int .i64 k, .int .i64 stop, .bool torn, .int .i64 n0, .int .i64 n1, .int .i64 n2, .int .i64 n3, .int .i64 n4, .int .i64 n5, .int .i64 n6]] w fun e w' => e = .returned (.bool (fitsB ⟨6, k, stop, torn, ⟨n0, n1, n2, n3, ⟨n4, n5, n6⟩⟩⟩)) ∧ Below w.heap.size w w' := by
  by_cases hk : k < 0
  · have bk : decide (k < 0) = true := by simpa using hk
    rw [fits_odd (show oddB ⟨6, k, stop, torn, ⟨n0, n1, n2, n3, ⟨n4, n5, n6⟩⟩⟩ from .inl hk)]
    go_enter Try.func46, Try.ntmps46
    go_wp2
    go_ret
    exact ⟨rfl, (by repeat (first | exact Below.refl _ _ | assumption | apply below_alloc | apply below_drew1 | apply pw_below_drewN | refine below_step ?_ (by assumption)))⟩
  · have bk : decide (k < 0) = false := by simpa using hk
    by_cases hs : stop < 0
    · have bs : decide (stop < 0) = true := by simpa using hs
      rw [fits_odd (show oddB ⟨6, k, stop, torn, ⟨n0, n1, n2, n3, ⟨n4, n5, n6⟩⟩⟩ from .inr (.inl hs))]
      go_enter Try.func46, Try.ntmps46
      go_wp2
      go_ret
      exact ⟨rfl, (by repeat (first | exact Below.refl _ _ | assumption | apply below_alloc | apply below_drew1 | apply pw_below_drewN | refine below_step ?_ (by assumption)))⟩
    · have bs : decide (stop < 0) = false := by simpa using hs
      by_cases ht : 2 < stop
      · have bt : decide (2 < stop) = true := by simpa using ht
        rw [fits_odd (show oddB ⟨6, k, stop, torn, ⟨n0, n1, n2, n3, ⟨n4, n5, n6⟩⟩⟩ from .inr (.inr (.inl ht)))]
        go_enter Try.func46, Try.ntmps46
        go_wp2
        go_ret
        exact ⟨rfl, (by repeat (first | exact Below.refl _ _ | assumption | apply below_alloc | apply below_drew1 | apply pw_below_drewN | refine below_step ?_ (by assumption)))⟩
      · have bt : decide (2 < stop) = false := by simpa using ht
        by_cases h0 : stop ≠ 0
        · skip
          have b0 : (stop == 0) = false := by simpa using h0
          rw [fits_odd (show oddB ⟨6, k, stop, torn, ⟨n0, n1, n2, n3, ⟨n4, n5, n6⟩⟩⟩ from .inr (.inr (.inr (.inl ⟨(by simp), h0⟩))))]
          go_enter Try.func46, Try.ntmps46
          go_wp2
          go_ret
          exact ⟨rfl, (by repeat (first | exact Below.refl _ _ | assumption | apply below_alloc | apply below_drew1 | apply pw_below_drewN | refine below_step ?_ (by assumption)))⟩
        obtain rfl : stop = 0 := by simpa using h0
        by_cases hn : torn = true
        · subst hn
          rw [fits_odd (show oddB ⟨6, k, 0, true, ⟨n0, n1, n2, n3, ⟨n4, n5, n6⟩⟩⟩ from .inr (.inr (.inr (.inr (.inl ⟨(by simp), rfl⟩)))))]
          go_enter Try.func46, Try.ntmps46
          go_wp2
          go_ret
          exact ⟨rfl, (by repeat (first | exact Below.refl _ _ | assumption | apply below_alloc | apply below_drew1 | apply pw_below_drewN | refine below_step ?_ (by assumption)))⟩
        obtain rfl : torn = false := by simpa using hn
        cases hz : newsEq ⟨n0, n1, n2, n3, ⟨n4, n5, n6⟩⟩ ⟨0, 0, 0, 0, ⟨0, 0, 0⟩⟩
        · skip
          rw [fits_odd (show oddB ⟨6, k, 0, false, ⟨n0, n1, n2, n3, ⟨n4, n5, n6⟩⟩⟩ from .inr (.inr (.inr (.inr (.inr (⟨(by simp), hz⟩))))))]
          go_enter Try.func46, Try.ntmps46
          go_wp2
          go_ret
          exact ⟨rfl, (by repeat (first | exact Below.refl _ _ | assumption | apply below_alloc | apply below_drew1 | apply pw_below_drewN | refine below_step ?_ (by assumption)))⟩
        have hno : ¬ oddB ⟨6, k, 0, false, ⟨n0, n1, n2, n3, ⟨n4, n5, n6⟩⟩⟩ := by
          rintro (h | h | h | h | h | h)
          · exact hk h
          · exact hs h
          · exact ht h
          · exact h.2 rfl
          · exact absurd h.2 (by simp)
          · have h2 : newsEq ⟨n0, n1, n2, n3, ⟨n4, n5, n6⟩⟩ ⟨0, 0, 0, 0, ⟨0, 0, 0⟩⟩ = false := h.2; rw [hz] at h2; cases h2
        by_cases h1 : k = 0
        · subst h1
          have hf : fitsB ⟨6, 0, 0, false, ⟨n0, n1, n2, n3, ⟨n4, n5, n6⟩⟩⟩ = true := by rw [fitsB, if_neg hno]; simp
          rw [hf]
          go_enter Try.func46, Try.ntmps46
          go_wp2
          go_ret
          exact ⟨rfl, (by repeat (first | exact Below.refl _ _ | assumption | apply below_alloc | apply below_drew1 | apply pw_below_drewN | refine below_step ?_ (by assumption)))⟩
        · have b1 : (k == 0) = false := by simpa using h1
          have hf : fitsB ⟨6, k, 0, false, ⟨n0, n1, n2, n3, ⟨n4, n5, n6⟩⟩⟩ = false := by rw [fitsB, if_neg hno]; simp [h1]
          rw [hf]
          go_enter Try.func46, Try.ntmps46
          go_wp2
          go_ret
          exact ⟨rfl, (by repeat (first | exact Below.refl _ _ | assumption | apply below_alloc | apply below_drew1 | apply pw_below_drewN | refine below_step ?_ (by assumption)))⟩
set_option maxRecDepth 100000 in
set_option maxHeartbeats 8000000 in
theorem seg_fits_o (do_ : Int) (k stop : Int) (torn : Bool) (n0 n1 n2 n3 n4 n5 n6 : Int) (w : World) (d1 : do_ ≠ 1) (d2 : do_ ≠ 2) (d3 : do_ ≠ 3) (d4 : do_ ≠ 4) (d5 : do_ ≠ 5) (d6 : do_ ≠ 6) :
    Calls Try.prog 46 #[.agg #[.int .i64 do_, .int .i64 k, .int .i64 stop, .bool torn, .int .i64 n0, .int .i64 n1, .int .i64 n2, .int .i64 n3, .int .i64 n4, .int .i64 n5, .int .i64 n6]] w fun e w' => e = .returned (.bool (fitsB ⟨do_, k, stop, torn, ⟨n0, n1, n2, n3, ⟨n4, n5, n6⟩⟩⟩)) ∧ Below w.heap.size w w' := by
  have f1 : (do_ == 1) = false := by simpa using d1
  have f2 : (do_ == 2) = false := by simpa using d2
  have f3 : (do_ == 3) = false := by simpa using d3
  have f4 : (do_ == 4) = false := by simpa using d4
  have f5 : (do_ == 5) = false := by simpa using d5
  have f6 : (do_ == 6) = false := by simpa using d6
  by_cases hk : k < 0
  · have bk : decide (k < 0) = true := by simpa using hk
    rw [fits_odd (show oddB ⟨do_, k, stop, torn, ⟨n0, n1, n2, n3, ⟨n4, n5, n6⟩⟩⟩ from .inl hk)]
    go_enter Try.func46, Try.ntmps46
    go_wp2
    go_ret
    exact ⟨rfl, (by repeat (first | exact Below.refl _ _ | assumption | apply below_alloc | apply below_drew1 | apply pw_below_drewN | refine below_step ?_ (by assumption)))⟩
  · have bk : decide (k < 0) = false := by simpa using hk
    by_cases hs : stop < 0
    · have bs : decide (stop < 0) = true := by simpa using hs
      rw [fits_odd (show oddB ⟨do_, k, stop, torn, ⟨n0, n1, n2, n3, ⟨n4, n5, n6⟩⟩⟩ from .inr (.inl hs))]
      go_enter Try.func46, Try.ntmps46
      go_wp2
      go_ret
      exact ⟨rfl, (by repeat (first | exact Below.refl _ _ | assumption | apply below_alloc | apply below_drew1 | apply pw_below_drewN | refine below_step ?_ (by assumption)))⟩
    · have bs : decide (stop < 0) = false := by simpa using hs
      by_cases ht : 2 < stop
      · have bt : decide (2 < stop) = true := by simpa using ht
        rw [fits_odd (show oddB ⟨do_, k, stop, torn, ⟨n0, n1, n2, n3, ⟨n4, n5, n6⟩⟩⟩ from .inr (.inr (.inl ht)))]
        go_enter Try.func46, Try.ntmps46
        go_wp2
        go_ret
        exact ⟨rfl, (by repeat (first | exact Below.refl _ _ | assumption | apply below_alloc | apply below_drew1 | apply pw_below_drewN | refine below_step ?_ (by assumption)))⟩
      · have bt : decide (2 < stop) = false := by simpa using ht
        by_cases h0 : stop ≠ 0
        · skip
          have b0 : (stop == 0) = false := by simpa using h0
          rw [fits_odd (show oddB ⟨do_, k, stop, torn, ⟨n0, n1, n2, n3, ⟨n4, n5, n6⟩⟩⟩ from .inr (.inr (.inr (.inl ⟨d4, h0⟩))))]
          go_enter Try.func46, Try.ntmps46
          go_wp2
          go_ret
          exact ⟨rfl, (by repeat (first | exact Below.refl _ _ | assumption | apply below_alloc | apply below_drew1 | apply pw_below_drewN | refine below_step ?_ (by assumption)))⟩
        obtain rfl : stop = 0 := by simpa using h0
        by_cases hn : torn = true
        · subst hn
          rw [fits_odd (show oddB ⟨do_, k, 0, true, ⟨n0, n1, n2, n3, ⟨n4, n5, n6⟩⟩⟩ from .inr (.inr (.inr (.inr (.inl ⟨d5, rfl⟩)))))]
          go_enter Try.func46, Try.ntmps46
          go_wp2
          go_ret
          exact ⟨rfl, (by repeat (first | exact Below.refl _ _ | assumption | apply below_alloc | apply below_drew1 | apply pw_below_drewN | refine below_step ?_ (by assumption)))⟩
        obtain rfl : torn = false := by simpa using hn
        cases hz : newsEq ⟨n0, n1, n2, n3, ⟨n4, n5, n6⟩⟩ ⟨0, 0, 0, 0, ⟨0, 0, 0⟩⟩
        · skip
          rw [fits_odd (show oddB ⟨do_, k, 0, false, ⟨n0, n1, n2, n3, ⟨n4, n5, n6⟩⟩⟩ from .inr (.inr (.inr (.inr (.inr (⟨d1, hz⟩))))))]
          go_enter Try.func46, Try.ntmps46
          go_wp2
          go_ret
          exact ⟨rfl, (by repeat (first | exact Below.refl _ _ | assumption | apply below_alloc | apply below_drew1 | apply pw_below_drewN | refine below_step ?_ (by assumption)))⟩
        have hno : ¬ oddB ⟨do_, k, 0, false, ⟨n0, n1, n2, n3, ⟨n4, n5, n6⟩⟩⟩ := by
          rintro (h | h | h | h | h | h)
          · exact hk h
          · exact hs h
          · exact ht h
          · exact h.2 rfl
          · exact absurd h.2 (by simp)
          · have h2 : newsEq ⟨n0, n1, n2, n3, ⟨n4, n5, n6⟩⟩ ⟨0, 0, 0, 0, ⟨0, 0, 0⟩⟩ = false := h.2; rw [hz] at h2; cases h2
        have hf : fitsB ⟨do_, k, 0, false, ⟨n0, n1, n2, n3, ⟨n4, n5, n6⟩⟩⟩ = false := by rw [fitsB, if_neg hno]; simp [d1, d2, d3, d4, d5, d6]
        rw [hf]
        go_enter Try.func46, Try.ntmps46
        go_wp2
        go_ret
        exact ⟨rfl, (by repeat (first | exact Below.refl _ _ | assumption | apply below_alloc | apply below_drew1 | apply pw_below_drewN | refine below_step ?_ (by assumption)))⟩
theorem seg_fits (s : SStep) (w : World) : Calls Try.prog 46 #[.agg #[.int .i64 s.do_, .int .i64 s.k, .int .i64 s.stop, .bool s.torn, .int .i64 s.news.do_, .int .i64 s.news.src, .int .i64 s.news.id, .int .i64 s.news.ver, .int .i64 s.news.body.at_, .int .i64 s.news.body.key, .int .i64 s.news.body.val]] w fun e w' => e = .returned (.bool (fitsB s)) ∧ Below w.heap.size w w' := by
  obtain ⟨do_, k, stop, torn, ⟨n0, n1, n2, n3, ⟨n4, n5, n6⟩⟩⟩ := s
  by_cases d1 : do_ = 1
  · subst d1; exact seg_fits_1 k stop torn n0 n1 n2 n3 n4 n5 n6 w
  by_cases d2 : do_ = 2
  · subst d2; exact seg_fits_2 k stop torn n0 n1 n2 n3 n4 n5 n6 w
  by_cases d3 : do_ = 3
  · subst d3; exact seg_fits_3 k stop torn n0 n1 n2 n3 n4 n5 n6 w
  by_cases d4 : do_ = 4
  · subst d4; exact seg_fits_4 k stop torn n0 n1 n2 n3 n4 n5 n6 w
  by_cases d5 : do_ = 5
  · subst d5; exact seg_fits_5 k stop torn n0 n1 n2 n3 n4 n5 n6 w
  by_cases d6 : do_ = 6
  · subst d6; exact seg_fits_6 k stop torn n0 n1 n2 n3 n4 n5 n6 w
  exact seg_fits_o do_ k stop torn n0 n1 n2 n3 n4 n5 n6 w d1 d2 d3 d4 d5 d6
end Go.Proofs.Ytfmojgdomficlaa
set_option linter.unusedVariables false
set_option linter.unusedSimpArgs false
/-! A step, whole. -/
namespace Go.Proofs.Ytfmojgdomficlaa
open Go.RowKit Go.Shelf Go.Proofs.YtfmojgdomficlaaW.PrintWords

def openAt (d : SDisk) : Nat := (placeI (openNo d) d.files 0).getD 0
def mergeD (d : SDisk) (k : Nat) (stop : Int) : SDisk × Bool :=
  if d.list.length ≤ k + 2 ∨ fullB d = true then (d, false)
  else if stop = 1 then (crashD (merge1D d k) (openAt d) 0 false, true)
  else if stop = 2 then (crashD (merge2D d k) (openAt d) 0 false, true)
  else (merge3D d k, true)
/-- A step of a device. -/
def stepD (d : SDisk) (s : SStep) : SDisk × Bool :=
  if s.do_ = 5 then (crashD d (openAt d) s.k s.torn, true)
  else if s.do_ = 6 then (reopenD d, true)
  else if wholeB d = false then (d, false)
  else if s.do_ = 1 then writeD d (openAt d) s.news
  else if s.do_ = 2 then (syncD d (openAt d), true)
  else if s.do_ = 3 then sealD d (openAt d)
  else mergeD d s.k.toNat s.stop
/-- What a device must be for a step to be walked. -/
structure Ready (d : SDisk) : Prop where
  ne : d.list ≠ []
  placed : ∀ no ∈ d.list, (placeI no d.files 0).isSome = true
  nos : NoOk d
  files : d.files.length ≤ 80000
  list : d.list.length ≤ 80000
  recs : ∀ f ∈ d.files, f.recs.length ≤ 90000
  safe : ∀ f ∈ d.files, 0 ≤ f.safe ∧ f.safe ≤ f.recs.length
  there : (thereOf d).length ≤ 100000
theorem openNo_mem {d : SDisk} (h : d.list ≠ []) : openNo d ∈ d.list := List.mem_of_getElem? (last_get d.list h)
theorem Ready.open {d : SDisk} (h : Ready d) : OpenOk d (openAt d) := by
  refine ⟨h.ne, ?_⟩
  obtain ⟨i, hi⟩ := Option.isSome_iff_exists.1 (h.placed _ (openNo_mem h.ne))
  rw [openAt, hi]; rfl
theorem placeI_append (no : Int) (l' : List SFile) : ∀ (l : List SFile) (k i : Nat), placeI no l k = some i → placeI no (l ++ l') k = some i
  | [], k, i, h => by simp [placeI] at h
  | f :: l, k, i, h => by
    rw [List.cons_append]
    unfold placeI at h ⊢
    split
    · rename_i e; rw [if_pos e] at h; exact h
    · rename_i e; rw [if_neg e] at h; exact placeI_append no l' l _ _ h
theorem fileAt_fresh {d : SDisk} {recs : List SRec} {i : Nat} (h : i < d.files.length) : fileAt (freshD d recs) i = fileAt d i := by
  simp only [fileAt, freshD, List.getElem?_append_left h]
theorem merge1_open {d : SDisk} {k i : Nat} (h : OpenOk d i) : OpenOk (merge1D d k) i := ⟨h.ne, placeI_append _ _ _ _ _ h.at_⟩
theorem merge2_openNo {d : SDisk} {k : Nat} (hk : k + 2 < d.list.length) : openNo (merge2D d k) = openNo d := by
  simp only [openNo, merge2D]
  rw [List.getLast?_append]
  have : (d.list.drop (k + 2)).getLast? = d.list.getLast? := by rw [List.getLast?_drop, if_neg (by omega)]
  rw [this]
  cases hl : d.list.getLast? with
  | none =>
    rw [List.getLast?_eq_none_iff] at hl
    rw [hl] at hk
    cases hk
  | some x => rfl
theorem merge2_open {d : SDisk} {k i : Nat} (h : OpenOk d i) (hk : k + 2 < d.list.length) : OpenOk (merge2D d k) i :=
  ⟨by simp [merge2D], by rw [merge2_openNo hk]; exact placeI_append _ _ _ _ _ h.at_⟩
section
variable {d : SDisk} {i : Nat}
theorem Ready.safeAt (h : Ready d) (hi : i < d.files.length) : 0 ≤ (fileAt d i).safe ∧ (fileAt d i).safe ≤ (fileAt d i).recs.length := h.safe _ (List.mem_of_getElem? (fileAt_get hi))
theorem Ready.recsAt (h : Ready d) (hi : i < d.files.length) : (fileAt d i).recs.length ≤ 90000 := h.recs _ (List.mem_of_getElem? (fileAt_get hi))
end
theorem seg_step (d : SDisk) (h0 : Nat) (b : Nat) (vf vl : Value) (rs : List RF) (s : SStep) (w : World) (hd : DOwn h0 w b vf vl rs d) (hh : h0 ≤ w.heap.size) (hr : Ready d) (hf : fitsB s = true) (hk2 : s.k ≤ 9223372036854775807) :
    Calls Try.prog 48 #[.pointer (some ⟨b, 0, none⟩), .agg #[.int .i64 s.do_, .int .i64 s.k, .int .i64 s.stop, .bool s.torn, .int .i64 s.news.do_, .int .i64 s.news.src, .int .i64 s.news.id, .int .i64 s.news.ver, .int .i64 s.news.body.at_, .int .i64 s.news.body.key, .int .i64 s.news.body.val]] w (DiskPost h0 b (stepD d s).2 (stepD d s).1 w) := by
  obtain ⟨do_, k, stop, torn, n⟩ := s
  have hok := hr.open
  have hil := hok.lt
  obtain ⟨hs0, hs1⟩ := hr.safeAt hil
  have hrl := hr.recsAt hil
  have hno : ¬ oddB ⟨do_, k, stop, torn, n⟩ := fun h => by rw [fits_odd h] at hf; cases hf
  have hk : 0 ≤ k := by
    by_cases h : k < 0
    · exact absurd (.inl h) hno
    · omega
  by_cases d5 : do_ = 5
  · subst d5
    refine seg_do5 d h0 b vf vl rs (openAt d) ⟨5, k, stop, torn, n⟩ _ _ w hd hh rfl (fun X hX hx => (seg_crash d h0 b vf vl rs (openAt d) ⟨5, k, stop, torn, n⟩ X hX hok hk hk2 hs0 hs1 (by omega) hx).mono ?_)
    exact fun e w' h => .inl h
  by_cases d6 : do_ = 6
  · subst d6
    refine seg_do6 d h0 b vf vl rs (openAt d) ⟨6, k, stop, torn, n⟩ _ _ w hd hh rfl (fun X hX hx => (seg_reopen d h0 b vf vl rs ⟨6, k, stop, torn, n⟩ X hX ⟨by have := hr.files; omega, by have := hr.list; omega, fun f hf => by have := hr.recs f hf; omega⟩ hx).mono ?_)
    exact fun e w' h => .inl h
  cases hw : wholeB d
  · have hst : stepD d ⟨do_, k, stop, torn, n⟩ = (d, false) := by simp [stepD, d5, d6, hw]
    rw [hst]
    exact seg_do_no d h0 b vf vl rs ⟨do_, k, stop, torn, n⟩ w hd hh d5 d6 hw
  by_cases d1 : do_ = 1
  · subst d1
    have hst : stepD d ⟨1, k, stop, torn, n⟩ = writeD d (openAt d) n := by simp [stepD, hw]
    rw [hst]
    refine seg_do1 d h0 b vf vl rs (openAt d) ⟨1, k, stop, torn, n⟩ _ _ w hd hh rfl hw (fun X hX hx => (seg_write d h0 b vf vl rs (openAt d) ⟨1, k, stop, torn, n⟩ X hX hok hr.placed hr.there hx).mono ?_)
    exact fun e w' h => .inl h
  by_cases d2 : do_ = 2
  · subst d2
    have hst : stepD d ⟨2, k, stop, torn, n⟩ = (syncD d (openAt d), true) := by simp [stepD, hw]
    rw [hst]
    refine seg_do2 d h0 b vf vl rs (openAt d) ⟨2, k, stop, torn, n⟩ _ _ w hd hh rfl hw (fun X hX hx => (seg_sync d h0 b vf vl rs (openAt d) ⟨2, k, stop, torn, n⟩ X hX hok hx).mono ?_)
    exact fun e w' h => .inl h
  by_cases d3 : do_ = 3
  · subst d3
    have hst : stepD d ⟨3, k, stop, torn, n⟩ = sealD d (openAt d) := by simp [stepD, hw]
    rw [hst]
    refine seg_do3 d h0 b vf vl rs (openAt d) ⟨3, k, stop, torn, n⟩ _ _ w hd hh rfl hw (fun X hX hx => (seg_seal d h0 b vf vl rs (openAt d) ⟨3, k, stop, torn, n⟩ X hX hok hr.nos (by have := hr.files; omega) (by have := hr.list; omega) hx).mono ?_)
    exact fun e w' h => .inl h
  by_cases d4 : do_ = 4
  · subst d4
    obtain ⟨m, rfl⟩ := Int.eq_ofNat_of_zero_le hk
    have hst : stepD d ⟨4, m, stop, torn, n⟩ = mergeD d m stop := by simp [stepD, hw]
    rw [hst]
    refine seg_do4 d h0 b vf vl rs (openAt d) ⟨4, m, stop, torn, n⟩ _ _ w hd hh rfl hw (fun X hX hx => ?_)
    by_cases hg : d.list.length ≤ m + 2 ∨ fullB d = true
    · rw [mergeD, if_pos hg]
      exact (seg_merge_no d h0 b vf vl rs m 4 stop torn n X hX hr.nos (by have := hr.list; omega) hx hg).mono fun e w' h => .inl h
    · rw [mergeD, if_neg hg]
      have hg1 : m + 2 < d.list.length := by have := fun h => hg (.inl h); omega
      have hg2 : fullB d = false := by
        cases hq : fullB d
        · rfl
        · exact absurd (.inr hq) hg
      refine (seg_merge_do d h0 b vf vl rs m 4 stop torn n X hX hr.placed hr.nos (by have := hr.files; omega) (fun f hf => by have := hr.recs f hf; omega) (by have := hr.list; omega) hx hg1 hg2).mono fun e w' h => ?_
      unfold MergePost at h
      have hf1 : fileAt (merge1D d m) (openAt d) = fileAt d (openAt d) := fileAt_fresh hil
      have hf2 : fileAt (merge2D d m) (openAt d) = fileAt d (openAt d) := fileAt_fresh (recs := mergeRecs d m) hil
      by_cases h1 : stop = 1
      · rw [if_pos h1] at h ⊢
        exact .inr ⟨_, h, rfl, rfl, merge1_open hok, by rw [hf1]; exact hs0, by rw [hf1]; exact hs1, by rw [hf1]; omega⟩
      · rw [if_neg h1] at h ⊢
        by_cases h2 : stop = 2
        · rw [if_pos h2] at h ⊢
          exact .inr ⟨_, h, rfl, rfl, merge2_open hok hg1, by rw [hf2]; exact hs0, by rw [hf2]; exact hs1, by rw [hf2]; omega⟩
        · rw [if_neg h2] at h ⊢
          exact .inl h
  exfalso
  rw [fitsB, if_neg hno] at hf
  simp [d1, d2, d3, d4, d5, d6] at hf
end Go.Proofs.Ytfmojgdomficlaa
set_option linter.unusedVariables false
set_option linter.unusedSimpArgs false
/-! Steps one behind the other. -/
namespace Go.Proofs.Ytfmojgdomficlaa
open Go.RowKit Go.Shelf Go.Proofs.YtfmojgdomficlaaW.PrintWords

def kStep : Kd SStep := Kd.iso (Kd.pair (Kd.int .i64) (Kd.pair (Kd.int .i64) (Kd.pair (Kd.int .i64) (Kd.pair Kd.bool kNews)))) (fun x : SStep => (x.do_, x.k, x.stop, x.torn, x.news))
theorem kStep_open {w : World} {x : SStep} {cs : List Value} (h : kStep.K w x cs) : cs = [.int .i64 x.do_, .int .i64 x.k, .int .i64 x.stop, .bool x.torn, .int .i64 x.news.do_, .int .i64 x.news.src, .int .i64 x.news.id, .int .i64 x.news.ver, .int .i64 x.news.body.at_, .int .i64 x.news.body.key, .int .i64 x.news.body.val] := by
  obtain ⟨c1, c2, rfl, rfl, c3, c4, rfl, rfl, c5, c6, rfl, rfl, c7, c8, rfl, rfl, h1⟩ := h
  obtain rfl := kNews_open h1; rfl
theorem kStep_mk (w : World) (x : SStep) : kStep.K w x [.int .i64 x.do_, .int .i64 x.k, .int .i64 x.stop, .bool x.torn, .int .i64 x.news.do_, .int .i64 x.news.src, .int .i64 x.news.id, .int .i64 x.news.ver, .int .i64 x.news.body.at_, .int .i64 x.news.body.key, .int .i64 x.news.body.val] := ⟨[_], _, rfl, rfl, [_], _, rfl, rfl, [_], _, rfl, rfl, [_], _, rfl, rfl, kNews_mk w x.news⟩
abbrev StepsRow (w : World) (A : Option Addr) (n : Nat) (l : List SStep) : Prop := Kd.C kStep w A n l
theorem step_at {w : World} {A : Option Addr} {n : Nat} {l : List SStep} (h : StepsRow w A n l) (k : Nat) (hk : k < n) :
    ∃ x ad, l[k]? = some x ∧ l.take (k + 1) = l.take k ++ [x] ∧ A = some ad ∧ w.cell? (ad.add (k * 11)) = some (.int .i64 x.do_) ∧ ∀ j u, j ≠ 0 → [Value.int .i64 x.do_, .int .i64 x.k, .int .i64 x.stop, .bool x.torn, .int .i64 x.news.do_, .int .i64 x.news.src, .int .i64 x.news.id, .int .i64 x.news.ver, .int .i64 x.news.body.at_, .int .i64 x.news.body.key, .int .i64 x.news.body.val][j]? = some u → w.cell? ⟨(ad.add (k * 11)).block, (ad.add (k * 11)).off + j, none⟩ = some u := by
  obtain ⟨x, c, ad, h1, h2, h3, h4, h5, h6⟩ := row_at h k hk
  obtain rfl := kStep_open h5
  have hc : ∀ j u, [Value.int .i64 x.do_, .int .i64 x.k, .int .i64 x.stop, .bool x.torn, .int .i64 x.news.do_, .int .i64 x.news.src, .int .i64 x.news.id, .int .i64 x.news.ver, .int .i64 x.news.body.at_, .int .i64 x.news.body.key, .int .i64 x.news.body.val][j]? = some u → w.cell? (ad.add (k * 11 + j)) = some u := h6
  exact ⟨x, ad, h3, h2, h4, hc 0 _ rfl, fun j u hj hu => by rw [← add_field _ _ j (by omega)]; exact hc j u hu⟩
/-- A device behind steps, and which were done. -/
def playTo (d : SDisk) (l : List SStep) : SDisk × List Bool := l.foldl (fun p s => ((stepD p.1 s).1, p.2 ++ [(stepD p.1 s).2])) (d, [])
theorem playTo_snoc (d : SDisk) (l : List SStep) (s : SStep) : playTo d (l ++ [s]) = ((stepD (playTo d l).1 s).1, (playTo d l).2 ++ [(stepD (playTo d l).1 s).2]) := by
  simp [playTo, List.foldl_append]
theorem playTo_len (d : SDisk) (l : List SStep) : (playTo d l).2.length = l.length := by
  have key : ∀ (l : List SStep) (p : SDisk × List Bool), (l.foldl (fun p s => ((stepD p.1 s).1, p.2 ++ [(stepD p.1 s).2])) p).2.length = p.2.length + l.length := by
    intro l
    induction l with
    | nil => intro p; simp
    | cons s l ih => intro p; rw [List.foldl_cons, ih]; simp; omega
  have := key l (d, [])
  simpa [playTo] using this
theorem DOwn.grownOther {h0 : Nat} {w w1 : World} {b : Nat} {vf vl : Value} {rs : List RF} {d : SDisk} (h : DOwn h0 w b vf vl rs d) {row : Option Nat} (hg : w.grownBy w1 row) (hc : ∀ k, row = some k → ∃ cs t, Cells w k cs t ∧ ¬ Mine t) : DOwn h0 w1 b vf vl rs d :=
  have st : ∀ (k : Nat) (cells : Array Value) (e : Nat), w.heap[k]? = some (.cells cells e (0, 0)) → Mine e → w1.heap[k]? = w.heap[k]? := fun k cells e hk hm => hg.block k (Array.getElem?_eq_some_iff.1 hk).1 (fun e' => by
    obtain ⟨cs, t, hc, hn⟩ := hc k e'.symm
    exact hn (cells_ty hk hc ▸ hm))
  ⟨h.hb, (st b _ _ h.box (.inl rfl)).trans h.box, own_step flat_rf h.files (fun k hk => by obtain ⟨_, _, hc⟩ := own_ty h.files hk; exact st k _ _ hc (.inr (.inl rfl))), h.rows.step (fun r hr k hk => by obtain ⟨_, _, hc⟩ := h.rows.typed hr hk; exact st k _ _ hc (.inr (.inr (.inl rfl)))), own_step flat_int h.list (fun k hk => by obtain ⟨_, _, hc⟩ := own_ty h.list hk; exact st k _ _ hc (.inr (.inr (.inr rfl))))⟩
theorem two_new (w X : World) (c1 c2 : Array Value) (t1 t2 : TypeId) (h : Below (w.heap.size + 1 + 1) ((w.alloc (.cells c1 t1)).alloc (.cells c2 t2)) X) :
    Cells X w.heap.size c1 t1 ∧ Cells X (w.heap.size + 1) c2 t2 ∧ Below w.heap.size w X := by
  have k1 : Cells ((w.alloc (.cells c1 t1)).alloc (.cells c2 t2)) w.heap.size c1 t1 := (Cells.new w c1 t1).later (below_alloc (Below.refl _ _) _)
  have k2 : Cells ((w.alloc (.cells c1 t1)).alloc (.cells c2 t2)) (w.alloc (.cells c1 t1)).heap.size c2 t2 := Cells.new _ c2 t2
  have hB : Below w.heap.size w ((w.alloc (.cells c1 t1)).alloc (.cells c2 t2)) := below_alloc (below_alloc (Below.refl _ _) _) _
  have hX : Below ((w.alloc (.cells c1 t1)).alloc (.cells c2 t2)).heap.size ((w.alloc (.cells c1 t1)).alloc (.cells c2 t2)) X := by simpa using h
  simp only [World.size_alloc] at k2
  exact ⟨k1.later hX, k2.later hX, below_step hB hX⟩
theorem disk_other : ¬ Mine 33 := by unfold Mine; decide
def noPlay (c : Int) : Value := .tuple #[.agg #[.slice none 0 0, .slice none 0 0], .slice none 0 0, .int .i64 c]
def PlayOk (d' : SDisk) (done : List Bool) (w : World) (e : Ending) (w' : World) : Prop :=
  ∃ Af cf Al cl Ab cb, e = .returned (.tuple #[.agg #[.slice Af d'.files.length cf, .slice Al d'.list.length cl], .slice Ab done.length cb, .int .i64 0]) ∧ DRows w' Af cf Al cl d' ∧ Kd.C Kd.bool w' Ab done.length done ∧ done.length ≤ cb ∧ Below w.heap.size w w'
set_option maxRecDepth 100000 in
set_option maxHeartbeats 8000000 in
theorem seg_Play_no (d : SDisk) (Af Al A : Option Addr) (cf cl n c : Nat) (w : World) (hd : DRows w Af cf Al cl d) (hF : Fits d) (hb : diskB d = false) :
    Calls Try.prog 25 #[.agg #[.slice Af d.files.length cf, .slice Al d.list.length cl], .slice A n c] w fun e w' => e = .returned (noPlay 2) ∧ Below w.heap.size w w' := by
  have Hd := Lib.hid hd
  have Hb := Lib.hid hb
  clear hd hb
  go_enter Try.func25, Try.ntmps25
  go_wp2_with (first
    | (go_at_call 18; refine (seg_Check d _ _ _ _ _ (Hd.out.later (by repeat (first | exact Below.refl _ _ | assumption | apply below_alloc | apply below_drew1 | apply pw_below_drewN | refine below_step ?_ (by assumption)))) hF).mono ?_; rintro e w2 ⟨rfl, hb2⟩; rw [Hb.out]; obtain ⟨k1, k2, hB2⟩ := two_new w w2 _ _ _ _ (by simpa using hb2); have q0 := k2.cell 0 _ rfl; have q1 := k2.cell 1 _ rfl; have f0 := k2.frozen 0; have f1 := k2.frozen 1))
  have hc := (k2.setAt 0 (.slice none 0 0)).setAt 1 (.slice none 0 0)
  have z0 := hc.cell 0 _ rfl
  have z1 := hc.cell 1 _ rfl
  have hB3 := (hB2.setCell (p := ⟨w.heap.size + 1, 0, none⟩) (by simp) (.slice none 0 0)).setCell (p := ⟨w.heap.size + 1, 1, none⟩) (by simp) (.slice none 0 0)
  exact bodyPost_ret (v := noPlay 2) (by simp [results, Try.results25, go_sem, z0, z1, noPlay]) rfl ⟨rfl, hB3⟩
/-- What Play answers on a formed device. -/
def PlayPost (d : SDisk) (l : List SStep) (w : World) (e : Ending) (w' : World) : Prop :=
  if l.all fitsB = false then e = .returned (noPlay 2) ∧ Below w.heap.size w w' else if 150 < l.length then e = .returned (noPlay 3) ∧ Below w.heap.size w w' else PlayOk (playTo d l).1 (playTo d l).2 w e w'
set_option maxRecDepth 100000 in
set_option maxHeartbeats 8000000 in
theorem seg_Play_yes (d : SDisk) (l : List SStep) (Af Al A : Option Addr) (cf cl c : Nat) (w : World) (hd : DRows w Af cf Al cl d) (hF : Fits d) (hS : SmallD d) (hb : diskB d = true) (hl : StepsRow w A l.length l) (hc : l.length ≤ c) (hk : ∀ s ∈ l, s.k ≤ 9223372036854775807)
    (hR : l.length ≤ 150 → l.all fitsB = true → ∀ j, j ≤ l.length → Ready (playTo d (l.take j)).1) :
    Calls Try.prog 25 #[.agg #[.slice Af d.files.length cf, .slice Al d.list.length cl], .slice A l.length c] w (PlayPost d l w) := by
  have Hd := Lib.hid hd
  have Hb := Lib.hid hb
  have Hl := Lib.hid hl
  have HR := Lib.hid hR
  have Hk := Lib.hid hk
  have hm : l.length ≤ 9223372036854775807 := hl.2.1
  clear hd hb hl hR hk
  go_enter Try.func25, Try.ntmps25
  go_wp2_with (first
    | (go_at_call 18; refine (seg_Check d _ _ _ _ _ (Hd.out.later (by repeat (first | exact Below.refl _ _ | assumption | apply below_alloc | apply below_drew1 | apply pw_below_drewN | refine below_step ?_ (by assumption)))) hF).mono ?_; rintro e w2 ⟨rfl, hb2⟩; rw [Hb.out]; obtain ⟨k1, k2, hB2⟩ := two_new w w2 _ _ _ _ (by simpa using hb2); have K1 := Lib.hid k1; have K2 := Lib.hid k2; have HB2 := Lib.hid hB2; clear k1 k2 hB2 hb2))
  go_loopw [22] (fun i wr => ∃ k : Nat, k ≤ l.length ∧ i = .int .i64 k ∧ (∀ s ∈ l.take k, fitsB s = true) ∧ Below w2.heap.size w2 wr) (fun i _ => l.length - (intOf i).toNat)
  case atStart => exact ⟨0, Nat.zero_le _, rfl, by simp, Below.refl _ _⟩
  case round =>
    obtain ⟨k, hk, rfl, hfit, hB⟩ := hrel
    by_cases hlt : k < l.length
    · obtain ⟨x, ad, hx, htk, rfl, e0, es⟩ := step_at (Kd.C_below Hl.out (below_step HB2.out hB)) k hlt
      have e1 := es 1 _ (by decide) rfl
      have e2 := es 2 _ (by decide) rfl
      have e3 := es 3 _ (by decide) rfl
      have e4 := es 4 _ (by decide) rfl
      have e5 := es 5 _ (by decide) rfl
      have e6 := es 6 _ (by decide) rfl
      have e7 := es 7 _ (by decide) rfl
      have e8 := es 8 _ (by decide) rfl
      have e9 := es 9 _ (by decide) rfl
      have e10 := es 10 _ (by decide) rfl
      have Hfit := Lib.hid hfit
      clear es hfit
      cases hq : fitsB x
      · have Hq := Lib.hid hq
        clear hq
        go_wp2_with (first
          | (go_at_call 46; refine (seg_fits x _).mono ?_; rintro e w4 ⟨rfl, hb4⟩; rw [Hq.out]; have hB4 : Below wr.heap.size wr w4 := below_step (below_alloc (Below.refl _ _) _) (by simpa using hb4); have hm2 := K2.out.later (below_step hB hB4); have q0 := hm2.cell 0 _ rfl; have q1 := hm2.cell 1 _ rfl; have f0 := hm2.frozen 0; have f1 := hm2.frozen 1))
        have hc := (hm2.setAt 0 (.slice none 0 0)).setAt 1 (.slice none 0 0)
        have z0 := hc.cell 0 _ rfl
        have z1 := hc.cell 1 _ rfl
        have hB9 := ((HB2.out.trans (Below.mono (below_step hB hB4) HB2.out.size)).setCell (p := ⟨w.heap.size + 1, 0, none⟩) (by simp) (.slice none 0 0)).setCell (p := ⟨w.heap.size + 1, 1, none⟩) (by simp) (.slice none 0 0)
        refine bodyPost_ret (v := noPlay 2) (by simp [results, Try.results25, go_sem, z0, z1, noPlay]) rfl ?_
        rw [PlayPost, if_pos (by rw [Bool.eq_false_iff]; intro h; rw [List.all_eq_true] at h; have := h x (List.mem_of_getElem? hx); rw [Hq.out] at this; cases this)]
        exact ⟨rfl, hB9⟩
      · have Hq := Lib.hid hq
        clear hq
        go_wp2_with (first
          | (go_at_call 46; refine (seg_fits x _).mono ?_; rintro e w4 ⟨rfl, hb4⟩; rw [Hq.out]; have hB4 : Below wr.heap.size wr w4 := below_step (below_alloc (Below.refl _ _) _) (by simpa using hb4); have hm2 := K2.out.later (below_step hB hB4); have q0 := hm2.cell 0 _ rfl; have q1 := hm2.cell 1 _ rfl; have f0 := hm2.frozen 0; have f1 := hm2.frozen 1))
        exact ⟨⟨k + 1, by omega, by go_num, by rw [htk]; intro s hs; rcases List.mem_append.1 hs with h | h; exact Hfit.out s h; rw [List.mem_singleton.1 h]; exact Hq.out, below_step hB hB4⟩, by simp [intOf]; omega⟩
    · have hkl : k = l.length := by omega
      have hall : l.all fitsB = true := by rw [List.all_eq_true]; intro s hs; exact hfit s (by rw [hkl, List.take_length]; exact hs)
      have HM := Lib.hid (K1.out.later hB)
      have HN := Lib.hid (K2.out.later hB)
      have HBw := Lib.hid (below_step HB2.out hB)
      clear hkl hfit hB
      by_cases h150 : 150 < l.length
      · have b150 : decide ((150 : Int) < l.length) = true := by simp; omega
        have q0 := HN.out.cell 0 _ rfl
        have q1 := HN.out.cell 1 _ rfl
        have f0 := HN.out.frozen 0
        have f1 := HN.out.frozen 1
        go_wp2
        have hc := (HN.out.setAt 0 (.slice none 0 0)).setAt 1 (.slice none 0 0)
        have z0 := hc.cell 0 _ rfl
        have z1 := hc.cell 1 _ rfl
        have hB9 := (HBw.out.setCell (p := ⟨w.heap.size + 1, 0, none⟩) (by simp) (.slice none 0 0)).setCell (p := ⟨w.heap.size + 1, 1, none⟩) (by simp) (.slice none 0 0)
        refine bodyPost_ret (v := noPlay 3) (by simp [results, Try.results25, go_sem, z0, z1, noPlay]) rfl ?_
        rw [PlayPost, if_neg (by rw [hall]; simp), if_pos h150]
        exact ⟨rfl, hB9⟩
      · have b150 : decide ((150 : Int) < l.length) = false := by simp; omega
        have HRd := Lib.hid (HR.out (by omega) hall)
        have q0 := HM.out.cell 0 _ rfl
        have q1 := HM.out.cell 1 _ rfl
        go_wp2_with (first
          | (go_at_call 47; refine (seg_own d _ _ _ _ _ (Hd.out.later HBw.out) hS).mono ?_; rintro e w3 ⟨b, vf, vl, rs, rfl, hD3, hB3⟩))
        have hwsz : w.heap.size + 1 < wr.heap.size := HN.out.lt
        have HB3 := Lib.hid hB3
        have HK2 := Lib.hid (HN.out.later hB3)
        have HBw3 := Lib.hid (below_step HBw.out hB3)
        have hws3 := hB3.size
        have HD3 := Lib.hid hD3
        clear hB3 hD3 q0 q1 HM HN K1 K2 HB2 Hd Hb
        generalize hw9 : wr.heap.size = h0 at *
        generalize wr = wq at *
        go_loopw [11, 39] (fun v i wr => ∃ (j : Nat) (vf vl : Value) (rs : List RF), j ≤ l.length ∧ i = .int .i64 j ∧ Own Kd.bool 4 wr h0 v (playTo d (l.take j)).2 ∧ DOwn h0 wr b vf vl rs (playTo d (l.take j)).1 ∧ Below h0 w3 wr) (fun _ i _ => l.length - (intOf i).toNat)
        case atStart => exact ⟨0, _, _, _, Nat.zero_le _, rfl, Kd.R_nil _ _ _ _ _, by simpa [playTo] using HD3.out, Below.refl _ _⟩
        case round =>
          obtain ⟨j, vf1, vl1, rs1, hj, rfl, ho, hD, hB⟩ := hrel
          have hsz := hB.size
          have hBr := HBw3.out.trans (Below.mono hB (by omega))
          obtain ⟨A6, n6, c6, rfl⟩ := R_slice' ho
          by_cases hlt2 : j < l.length
          · obtain ⟨x, ad, hx, htk, rfl, e0, es⟩ := step_at (Kd.C_below Hl.out hBr) j hlt2
            have e1 := es 1 _ (by decide) rfl
            have e2 := es 2 _ (by decide) rfl
            have e3 := es 3 _ (by decide) rfl
            have e4 := es 4 _ (by decide) rfl
            have e5 := es 5 _ (by decide) rfl
            have e6 := es 6 _ (by decide) rfl
            have e7 := es 7 _ (by decide) rfl
            have e8 := es 8 _ (by decide) rfl
            have e9 := es 9 _ (by decide) rfl
            have e10 := es 10 _ (by decide) rfl
            have hmem := List.mem_of_getElem? hx
            have hfx := List.all_eq_true.1 hall x hmem
            have hkx := Hk.out x hmem
            have Htp := Lib.hid (show playTo d (l.take (j + 1)) = ((stepD (playTo d (l.take j)).1 x).1, (playTo d (l.take j)).2 ++ [(stepD (playTo d (l.take j)).1 x).2]) by rw [htk]; exact playTo_snoc d (l.take j) x)
            have hlen : (playTo d (l.take j)).2.length = j := by rw [playTo_len, List.length_take]; omega
            have Ho1 := Lib.hid ho
            have HD1 := Lib.hid hD
            clear es ho hD htk hx hmem
            go_wp2_with (first
              | (go_at_call 48; refine (seg_step (playTo d (l.take j)).1 h0 b _ _ rs1 x _ (HD1.out.later (below_alloc (Below.refl _ _) _)) (by rw [World.size_alloc]; omega) (HRd.out j hj) hfx hkx).mono ?_; rintro e w5 ⟨vf5, vl5, rs5, rfl, hD5, hK5⟩; have Ho5 := Lib.hid (own_step flat_bool (Kd.R_below Ho1.out (below_alloc (Below.refl _ _) _)) (fun k hk => by obtain ⟨_, cs, hc⟩ := own_ty (Kd.R_below Ho1.out (below_alloc (Below.refl _ _) _)) hk; exact hK5.ty k cs _ hc bool_other)); have hw5 : h0 ≤ w5.heap.size := by have := hK5.size; rw [World.size_alloc] at this; omega)
              | (at_builtin; refine Kd.R_append Kd.bool (w0 := w5) h0 rfl _ _ 47 4 (.bool false) 1 rfl (by kernel_rfl) (by kernel_rfl) rfl (by decide) (by omega) (.slice A6 n6 c6) (playTo d (l.take j)).2 (stepD (playTo d (l.take j)).1 x).2 [.bool (stepD (playTo d (l.take j)).1 x).2] (fun _ => True) (fun _ => False) rfl rfl rfl (fun _ h => h.elim) (fun _ _ => trivial) Ho5.out (Below.refl _ _) (by omega) (by omega) ?_; intro v1 w7 r1 r2 r3 r4))
            refine ⟨⟨j + 1, vf5, vl5, rs5, by omega, by go_num, by rw [Htp.out]; exact r1, ?_, ?_⟩, by simp [intOf]; omega⟩
            · rw [Htp.out]
              exact hD5.grownOther r3 (fun k hk => by obtain ⟨_, cs, hc⟩ := own_ty Ho5.out hk; exact ⟨cs, _, hc, bool_other⟩)
            · exact ((hB.trans (Below.mono (below_alloc (Below.refl _ _) _) (by omega))).trans hK5.below).trans r2
          · have hjl : j = l.length := by omega
            subst hjl
            rw [List.take_length] at ho hD
            have hc2 : Cells wr (w.heap.size + 1) #[.slice none 0 0, .slice none 0 0] 33 := (hB.block _ (by omega)).trans HK2.out
            have q0 := hc2.cell 0 _ rfl
            have q1 := hc2.cell 1 _ rfl
            have f0 := hc2.frozen 0
            have f1 := hc2.frozen 1
            have p0 := hD.box.cell 0 _ rfl
            have p1 := hD.box.cell 1 _ rfl
            have hne : b ≠ w.heap.size + 1 := by have := hD.hb; omega
            obtain ⟨Af5, cf5, Al5, cl5, rfl, rfl, -⟩ := hD.reads
            go_wp2
            have hc3 := (hc2.setAt 0 (.slice Af5 (playTo d l).1.files.length cf5)).setAt 1 (.slice Al5 (playTo d l).1.list.length cl5)
            have z0 := hc3.cell 0 _ rfl
            have z1 := hc3.cell 1 _ rfl
            have hDf := (hD.setOther (p := ⟨w.heap.size + 1, 0, none⟩) hc2 disk_other (.slice Af5 (playTo d l).1.files.length cf5)).setOther (p := ⟨w.heap.size + 1, 1, none⟩) (hc2.setAt 0 (.slice Af5 (playTo d l).1.files.length cf5)) disk_other (.slice Al5 (playTo d l).1.list.length cl5)
            have hof := own_step flat_bool ho (w1 := (wr.setCell ⟨w.heap.size + 1, 0, none⟩ (.slice Af5 (playTo d l).1.files.length cf5)).setCell ⟨w.heap.size + 1, 1, none⟩ (.slice Al5 (playTo d l).1.list.length cl5)) (fun k hk => by
              have := (own_ty ho hk).1
              exact (Below.heap_setCell _ ⟨w.heap.size + 1, 1, none⟩ _ k (by simp; omega)).trans (Below.heap_setCell _ ⟨w.heap.size + 1, 0, none⟩ _ k (by simp; omega)))
            obtain ⟨Af7, cf7, Al7, cl7, e7, e8, hda⟩ := hDf.reads
            injection e7 with e1 e2 e3
            subst e1 e3
            injection e8 with e4 e5 e6
            subst e4 e6
            obtain ⟨Ab5, cb5, he5, hl5, hrow5⟩ := own_reads' hof
            have hB9 := (hBr.setCell (p := ⟨w.heap.size + 1, 0, none⟩) (by simp) (.slice Af5 (playTo d l).1.files.length cf5)).setCell (p := ⟨w.heap.size + 1, 1, none⟩) (by simp) (.slice Al5 (playTo d l).1.list.length cl5)
            refine bodyPost_ret (v := .tuple #[.agg #[.slice Af5 (playTo d l).1.files.length cf5, .slice Al5 (playTo d l).1.list.length cl5], .slice A6 n6 c6, .int .i64 0]) (by simp [results, Try.results25, go_sem, z0, z1]) rfl ?_
            rw [PlayPost, if_neg (by rw [hall]; simp), if_neg h150]
            exact ⟨Af5, cf5, Al5, cl5, Ab5, cb5, by rw [he5], hda.toDRows, hrow5, hl5, hB9⟩
end Go.Proofs.Ytfmojgdomficlaa
