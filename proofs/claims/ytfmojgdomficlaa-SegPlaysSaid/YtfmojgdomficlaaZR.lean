/-
  Texts of one hand, laid together: RefStep.
-/
import Derived.Test.YtfmojgdomficlaaZQ
import Derived.Test.YtfmojgdomficlaaZM
import Derived.Test.YtfmojgdomficlaaZI
set_option linter.unusedVariables false
set_option linter.unusedSimpArgs false
/-! A step, as the reference does it. -/
namespace Go.Proofs.Ytfmojgdomficlaa
open Go.RowKit Go.Shelf Go.Proofs.YtfmojgdomficlaaW.PrintWords

set_option maxRecDepth 100000 in
set_option maxHeartbeats 8000000 in
theorem ref_step_crash (d : SDisk) (h0 : Nat) (vf vl : Value) (rs : List RF) (k stop : Int) (torn : Bool) (n : News) (w : World) (hd : DVal h0 w vf vl rs d) (hok : DiskOk d) (hh : h0 ≤ w.heap.size) (hk : 0 ≤ k) :
    Calls Try.prog 75 #[.agg #[vf, vl], .agg #[.int .i64 5, .int .i64 k, .int .i64 stop, .bool torn, .int .i64 n.do_, .int .i64 n.src, .int .i64 n.id, .int .i64 n.ver, .int .i64 n.body.at_, .int .i64 n.body.key, .int .i64 n.body.val]] w (ValPost2 h0 true (crashD d (openAt d) k torn) w) := by
  have hr := hok.ready
  have hl := hr.list
  have hfl := hr.files
  have hW := three_step w h0 #[.int .i64 5, .int .i64 k, .int .i64 stop, .bool torn, .int .i64 n.do_, .int .i64 n.src, .int .i64 n.id, .int .i64 n.ver, .int .i64 n.body.at_, .int .i64 n.body.key, .int .i64 n.body.val] hd hh
  obtain ⟨Af, cf, Al, cl, rfl, rfl, hda⟩ := hd.reads
  have hcl := hda.capl
  have hcf := hda.capf
  have hmx : d.files.length ≤ 9223372036854775807 := hda.files.2.1
  have HW := Lib.hid hW
  have HB := Lib.hid ((three_new w #[.slice Af d.files.length cf, .slice Al d.list.length cl] #[.int .i64 5, .int .i64 k, .int .i64 stop, .bool torn, .int .i64 n.do_, .int .i64 n.src, .int .i64 n.id, .int .i64 n.ver, .int .i64 n.body.at_, .int .i64 n.body.key, .int .i64 n.body.val] #[.slice none 0 0, .slice none 0 0] 33 58 33).2.2.2)
  have Hda0 := Lib.hid hda
  have Hok := Lib.hid hok
  have Hr := Lib.hid hr
  clear hW hd hda hok hr
  go_enter Try.func75, Try.ntmps75
  go_upto_region 1 with fail
  generalize (((w.alloc (.cells #[.slice Af d.files.length cf, .slice Al d.list.length cl] 33)).alloc (.cells #[.int .i64 5, .int .i64 k, .int .i64 stop, .bool torn, .int .i64 n.do_, .int .i64 n.src, .int .i64 n.id, .int .i64 n.ver, .int .i64 n.body.at_, .int .i64 n.body.key, .int .i64 n.body.val] 58)).alloc (.cells #[.slice none 0 0, .slice none 0 0] 33)) = w3 at HW HB ⊢
  have Hda := Lib.hid (Hda0.out.later HB.out)
  clear Hda0
  have q0 := HW.out.db.box.cell 0 _ rfl
  have q1 := HW.out.db.box.cell 1 _ rfl
  have p0 := HW.out.step.cell 0 _ rfl
  have p1 := HW.out.step.cell 1 _ rfl
  have p3 := HW.out.step.cell 3 _ rfl
  have z0 := HW.out.two.cell 0 _ rfl
  have z1 := HW.out.two.cell 1 _ rfl
  have zf := HW.out.two.frozen
  have hoo := Hr.out.open
  have hsaf := Hr.out.safeAt hoo.lt
  have hrec := Hr.out.recsAt hoo.lt
  go_wp2_with (first
    | (go_at_call 94; (with_reducible refine (ref_crash d h0 _ _ rs (openAt d) k torn w3 HW.out.db.val hoo hk hsaf.1 hsaf.2 (by omega) (HW.out.size hh)).mono ?_); rintro e w8 ⟨vf8, vl8, rs8, rfl, hv8, hk8⟩; obtain ⟨A8, n8, c8, rfl⟩ := R_slice' hv8.files; obtain ⟨B8, m8, e8, rfl⟩ := R_slice' hv8.list; have hz8 : Cells w8 _ _ _ := hk8.cells HW.out.two not_mine_disk; have z0 := hz8.cell 0 _ rfl; have z1 := hz8.cell 1 _ rfl; have zf := hz8.frozen))
  have hvv := (hv8.set hz8 RowTy.disk 0 (.slice A8 n8 c8)).set (hz8.setAt 0 (.slice A8 n8 c8)) RowTy.disk 1 (.slice B8 m8 e8)
  have y2 := (hz8.setAt 0 (.slice A8 n8 c8)).setAt 1 (.slice B8 m8 e8)
  have y0 := y2.cell 0 _ rfl
  have y1 := y2.cell 1 _ rfl
  have hkk := ((HW.out.kp.trans hk8).setFresh (p := ⟨w.heap.size + 1 + 1, 0, none⟩) (by simp only; omega) hh (.slice A8 n8 c8)).setFresh (p := ⟨w.heap.size + 1 + 1, 1, none⟩) (by simp only; omega) hh (.slice B8 m8 e8)
  refine bodyPost_ret (v := .tuple #[.agg #[.slice A8 n8 c8, .slice B8 m8 e8], .bool true]) (by simp [results, Try.results75, go_sem, y0, y1]) rfl ?_
  exact ⟨_, _, _, rfl, hvv, hkk⟩
set_option maxRecDepth 100000 in
set_option maxHeartbeats 8000000 in
theorem ref_step_open (d : SDisk) (h0 : Nat) (vf vl : Value) (rs : List RF) (k stop : Int) (torn : Bool) (n : News) (w : World) (hd : DVal h0 w vf vl rs d) (hok : DiskOk d) (hh : h0 ≤ w.heap.size) :
    Calls Try.prog 75 #[.agg #[vf, vl], .agg #[.int .i64 6, .int .i64 k, .int .i64 stop, .bool torn, .int .i64 n.do_, .int .i64 n.src, .int .i64 n.id, .int .i64 n.ver, .int .i64 n.body.at_, .int .i64 n.body.key, .int .i64 n.body.val]] w (ValPost2 h0 true (reopenD d) w) := by
  have hr := hok.ready
  have hl := hr.list
  have hfl := hr.files
  have hW := three_step w h0 #[.int .i64 6, .int .i64 k, .int .i64 stop, .bool torn, .int .i64 n.do_, .int .i64 n.src, .int .i64 n.id, .int .i64 n.ver, .int .i64 n.body.at_, .int .i64 n.body.key, .int .i64 n.body.val] hd hh
  obtain ⟨Af, cf, Al, cl, rfl, rfl, hda⟩ := hd.reads
  have hcl := hda.capl
  have hcf := hda.capf
  have hmx : d.files.length ≤ 9223372036854775807 := hda.files.2.1
  have HW := Lib.hid hW
  have HB := Lib.hid ((three_new w #[.slice Af d.files.length cf, .slice Al d.list.length cl] #[.int .i64 6, .int .i64 k, .int .i64 stop, .bool torn, .int .i64 n.do_, .int .i64 n.src, .int .i64 n.id, .int .i64 n.ver, .int .i64 n.body.at_, .int .i64 n.body.key, .int .i64 n.body.val] #[.slice none 0 0, .slice none 0 0] 33 58 33).2.2.2)
  have Hda0 := Lib.hid hda
  have Hok := Lib.hid hok
  have Hr := Lib.hid hr
  clear hW hd hda hok hr
  go_enter Try.func75, Try.ntmps75
  go_upto_region 1 with fail
  generalize (((w.alloc (.cells #[.slice Af d.files.length cf, .slice Al d.list.length cl] 33)).alloc (.cells #[.int .i64 6, .int .i64 k, .int .i64 stop, .bool torn, .int .i64 n.do_, .int .i64 n.src, .int .i64 n.id, .int .i64 n.ver, .int .i64 n.body.at_, .int .i64 n.body.key, .int .i64 n.body.val] 58)).alloc (.cells #[.slice none 0 0, .slice none 0 0] 33)) = w3 at HW HB ⊢
  have Hda := Lib.hid (Hda0.out.later HB.out)
  clear Hda0
  have q0 := HW.out.db.box.cell 0 _ rfl
  have q1 := HW.out.db.box.cell 1 _ rfl
  have p0 := HW.out.step.cell 0 _ rfl
  have p1 := HW.out.step.cell 1 _ rfl
  have p3 := HW.out.step.cell 3 _ rfl
  have z0 := HW.out.two.cell 0 _ rfl
  have z1 := HW.out.two.cell 1 _ rfl
  have zf := HW.out.two.frozen
  go_wp2_with (first
    | (go_at_call 95; (with_reducible refine (ref_opened d h0 _ _ rs w3 HW.out.db.val (by omega) Hok.out.nodup (HW.out.size hh)).mono ?_); rintro e w8 ⟨vf8, vl8, rs8, rfl, hv8, hk8⟩; obtain ⟨A8, n8, c8, rfl⟩ := R_slice' hv8.files; obtain ⟨B8, m8, e8, rfl⟩ := R_slice' hv8.list; have hz8 : Cells w8 _ _ _ := hk8.cells HW.out.two not_mine_disk; have z0 := hz8.cell 0 _ rfl; have z1 := hz8.cell 1 _ rfl; have zf := hz8.frozen))
  have hvv := (hv8.set hz8 RowTy.disk 0 (.slice A8 n8 c8)).set (hz8.setAt 0 (.slice A8 n8 c8)) RowTy.disk 1 (.slice B8 m8 e8)
  have y2 := (hz8.setAt 0 (.slice A8 n8 c8)).setAt 1 (.slice B8 m8 e8)
  have y0 := y2.cell 0 _ rfl
  have y1 := y2.cell 1 _ rfl
  have hkk := ((HW.out.kp.trans hk8).setFresh (p := ⟨w.heap.size + 1 + 1, 0, none⟩) (by simp only; omega) hh (.slice A8 n8 c8)).setFresh (p := ⟨w.heap.size + 1 + 1, 1, none⟩) (by simp only; omega) hh (.slice B8 m8 e8)
  refine bodyPost_ret (v := .tuple #[.agg #[.slice A8 n8 c8, .slice B8 m8 e8], .bool true]) (by simp [results, Try.results75, go_sem, y0, y1]) rfl ?_
  exact ⟨_, _, _, rfl, hvv, hkk⟩
set_option maxRecDepth 100000 in
set_option maxHeartbeats 8000000 in
theorem ref_step_idle (d : SDisk) (h0 : Nat) (vf vl : Value) (rs : List RF) (k stop : Int) (torn : Bool) (n : News) (w : World) (hd : DVal h0 w vf vl rs d) (hok : DiskOk d) (hh : h0 ≤ w.heap.size) (do_ : Int) (h5 : do_ ≠ 5) (h6 : do_ ≠ 6) (hwh : wholeB d = false) :
    Calls Try.prog 75 #[.agg #[vf, vl], .agg #[.int .i64 do_, .int .i64 k, .int .i64 stop, .bool torn, .int .i64 n.do_, .int .i64 n.src, .int .i64 n.id, .int .i64 n.ver, .int .i64 n.body.at_, .int .i64 n.body.key, .int .i64 n.body.val]] w (ValPost2 h0 false d w) := by
  have hr := hok.ready
  have hl := hr.list
  have hfl := hr.files
  have hW := three_step w h0 #[.int .i64 do_, .int .i64 k, .int .i64 stop, .bool torn, .int .i64 n.do_, .int .i64 n.src, .int .i64 n.id, .int .i64 n.ver, .int .i64 n.body.at_, .int .i64 n.body.key, .int .i64 n.body.val] hd hh
  obtain ⟨Af, cf, Al, cl, rfl, rfl, hda⟩ := hd.reads
  have hcl := hda.capl
  have hcf := hda.capf
  have hmx : d.files.length ≤ 9223372036854775807 := hda.files.2.1
  have HW := Lib.hid hW
  have HB := Lib.hid ((three_new w #[.slice Af d.files.length cf, .slice Al d.list.length cl] #[.int .i64 do_, .int .i64 k, .int .i64 stop, .bool torn, .int .i64 n.do_, .int .i64 n.src, .int .i64 n.id, .int .i64 n.ver, .int .i64 n.body.at_, .int .i64 n.body.key, .int .i64 n.body.val] #[.slice none 0 0, .slice none 0 0] 33 58 33).2.2.2)
  have Hda0 := Lib.hid hda
  have Hok := Lib.hid hok
  have Hr := Lib.hid hr
  clear hW hd hda hok hr
  go_enter Try.func75, Try.ntmps75
  go_upto_region 1 with fail
  generalize (((w.alloc (.cells #[.slice Af d.files.length cf, .slice Al d.list.length cl] 33)).alloc (.cells #[.int .i64 do_, .int .i64 k, .int .i64 stop, .bool torn, .int .i64 n.do_, .int .i64 n.src, .int .i64 n.id, .int .i64 n.ver, .int .i64 n.body.at_, .int .i64 n.body.key, .int .i64 n.body.val] 58)).alloc (.cells #[.slice none 0 0, .slice none 0 0] 33)) = w3 at HW HB ⊢
  have Hda := Lib.hid (Hda0.out.later HB.out)
  clear Hda0
  have q0 := HW.out.db.box.cell 0 _ rfl
  have q1 := HW.out.db.box.cell 1 _ rfl
  have p0 := HW.out.step.cell 0 _ rfl
  have p1 := HW.out.step.cell 1 _ rfl
  have p3 := HW.out.step.cell 3 _ rfl
  have z0 := HW.out.two.cell 0 _ rfl
  have z1 := HW.out.two.cell 1 _ rfl
  have zf := HW.out.two.frozen
  have hd5 : (do_ == 5) = false := by simpa using h5
  have hd6 : (do_ == 6) = false := by simpa using h6
  go_wp2_with (first
    | (go_at_call 29; (with_reducible refine (ref_WholeOf d _ _ cf cl w3 Hda.out).mono ?_); rintro e w4 ⟨rfl, hb4⟩; rw [whole_eq Hok.out, hwh]; have HW4 := Lib.hid (HW.out.later hb4 hh); have q0 := HW4.out.db.box.cell 0 _ rfl; have q1 := HW4.out.db.box.cell 1 _ rfl; have z0 := HW4.out.two.cell 0 _ rfl; have z1 := HW4.out.two.cell 1 _ rfl; have zf := HW4.out.two.frozen))
  have hv := (HW4.out.db.val.set HW4.out.two RowTy.disk 0 (.slice Af d.files.length cf)).set (HW4.out.two.setAt 0 (.slice Af d.files.length cf)) RowTy.disk 1 (.slice Al d.list.length cl)
  have y2 := (HW4.out.two.setAt 0 (.slice Af d.files.length cf)).setAt 1 (.slice Al d.list.length cl)
  have y0 := y2.cell 0 _ rfl
  have y1 := y2.cell 1 _ rfl
  have hkk := (HW4.out.kp.setFresh (p := ⟨w.heap.size + 1 + 1, 0, none⟩) (by simp only; omega) hh (.slice Af d.files.length cf)).setFresh (p := ⟨w.heap.size + 1 + 1, 1, none⟩) (by simp only; omega) hh (.slice Al d.list.length cl)
  refine bodyPost_ret (v := .tuple #[.agg #[(.slice Af d.files.length cf), (.slice Al d.list.length cl)], .bool false]) (by simp [results, Try.results75, go_sem, y0, y1]) rfl ?_
  exact ⟨_, _, _, rfl, hv, hkk⟩
set_option maxRecDepth 100000 in
set_option maxHeartbeats 8000000 in
theorem ref_step_sync (d : SDisk) (h0 : Nat) (vf vl : Value) (rs : List RF) (k stop : Int) (torn : Bool) (n : News) (w : World) (hd : DVal h0 w vf vl rs d) (hok : DiskOk d) (hh : h0 ≤ w.heap.size) (hwh : wholeB d = true) :
    Calls Try.prog 75 #[.agg #[vf, vl], .agg #[.int .i64 2, .int .i64 k, .int .i64 stop, .bool torn, .int .i64 n.do_, .int .i64 n.src, .int .i64 n.id, .int .i64 n.ver, .int .i64 n.body.at_, .int .i64 n.body.key, .int .i64 n.body.val]] w (ValPost2 h0 true (syncD d (openAt d)) w) := by
  have hr := hok.ready
  have hl := hr.list
  have hfl := hr.files
  have hW := three_step w h0 #[.int .i64 2, .int .i64 k, .int .i64 stop, .bool torn, .int .i64 n.do_, .int .i64 n.src, .int .i64 n.id, .int .i64 n.ver, .int .i64 n.body.at_, .int .i64 n.body.key, .int .i64 n.body.val] hd hh
  obtain ⟨Af, cf, Al, cl, rfl, rfl, hda⟩ := hd.reads
  have hcl := hda.capl
  have hcf := hda.capf
  have hmx : d.files.length ≤ 9223372036854775807 := hda.files.2.1
  have HW := Lib.hid hW
  have HB := Lib.hid ((three_new w #[.slice Af d.files.length cf, .slice Al d.list.length cl] #[.int .i64 2, .int .i64 k, .int .i64 stop, .bool torn, .int .i64 n.do_, .int .i64 n.src, .int .i64 n.id, .int .i64 n.ver, .int .i64 n.body.at_, .int .i64 n.body.key, .int .i64 n.body.val] #[.slice none 0 0, .slice none 0 0] 33 58 33).2.2.2)
  have Hda0 := Lib.hid hda
  have Hok := Lib.hid hok
  have Hr := Lib.hid hr
  clear hW hd hda hok hr
  go_enter Try.func75, Try.ntmps75
  go_upto_region 1 with fail
  generalize (((w.alloc (.cells #[.slice Af d.files.length cf, .slice Al d.list.length cl] 33)).alloc (.cells #[.int .i64 2, .int .i64 k, .int .i64 stop, .bool torn, .int .i64 n.do_, .int .i64 n.src, .int .i64 n.id, .int .i64 n.ver, .int .i64 n.body.at_, .int .i64 n.body.key, .int .i64 n.body.val] 58)).alloc (.cells #[.slice none 0 0, .slice none 0 0] 33)) = w3 at HW HB ⊢
  have Hda := Lib.hid (Hda0.out.later HB.out)
  clear Hda0
  have q0 := HW.out.db.box.cell 0 _ rfl
  have q1 := HW.out.db.box.cell 1 _ rfl
  have p0 := HW.out.step.cell 0 _ rfl
  have p1 := HW.out.step.cell 1 _ rfl
  have p3 := HW.out.step.cell 3 _ rfl
  have z0 := HW.out.two.cell 0 _ rfl
  have z1 := HW.out.two.cell 1 _ rfl
  have zf := HW.out.two.frozen
  have hoo := Hr.out.open
  have hil := hoo.lt
  have hf := fileAt_get hil
  have hsaf := Hr.out.safeAt hil
  have hrec := Hr.out.recsAt hil
  obtain ⟨r, hr⟩ : ∃ r, rs[openAt d]? = some r := ⟨_, List.getElem?_eq_getElem (by rw [HW.out.db.rows.len]; exact hil)⟩
  obtain ⟨r1, r2, r3⟩ := HW.out.db.rows.rel (openAt d) r _ hr hf
  obtain ⟨rno, rA, rn, rc, rsafe⟩ := r
  simp only at r1 r2
  subst r1 r2
  obtain ⟨A', c', he, hrc, hrow⟩ := own_reads' r3
  obtain rfl : rn = (fileAt d (openAt d)).recs.length := by injection he
  obtain rfl : rc = c' := by injection he
  obtain rfl : rA = A' := by injection he
  obtain ⟨lf, hlf, hlast⟩ := lastNo_get Hr.out.nos.ne
  have hlow := Hr.out.nos.low
  have hhigh := Hr.out.nos.high
  obtain ⟨m, hml⟩ : ∃ m, d.files.length = m + 1 := ⟨d.files.length - 1, by have := List.length_pos_iff.2 Hr.out.nos.ne; omega⟩
  have hmlt : m < d.files.length := by omega
  rw [show d.files.length - 1 = m by omega] at hlf
  obtain ⟨rm, hrm⟩ : ∃ r, rs[m]? = some r := ⟨_, List.getElem?_eq_getElem (by rw [HW.out.db.rows.len]; exact hmlt)⟩
  have hrmn := (HW.out.db.rows.rel m rm _ hrm hlf).1
  obtain ⟨g, cf', hvf, hg0, hgl, g0, g1, g2, gf⟩ := HW.out.db.cells hr
  obtain ⟨g', cf2, hvf2, -, -, l0, -, -, -⟩ := HW.out.db.cells hrm
  injection hvf with e1 e2 e3
  subst e1 e3
  injection hvf2 with e1 e4 e5
  injection e1 with e1
  injection e1 with e1
  subst e1
  rw [hrmn, ← hlast] at l0
  have hwr : IntKind.i64.wrap ((d.files.length : Int) - 1) = (m : Int) := by rw [IntWalk.i64_in _ (by omega)]; omega
  have Hwr := Lib.hid hwr
  have Hpl := Lib.hid (show placeOf d.files (openNo d) = (openAt d : Int) by rw [placeOf, hoo.at_])
  have Hrr := Lib.hid hr
  have Hf := Lib.hid hf
  have Hoo := Lib.hid hoo
  have Hrow := Lib.hid hrow
  have G1 := Lib.hid (show w3.cell? ⟨g, openAt d * 3 + 1, none⟩ = some (.slice rA (fileAt d (openAt d)).recs.length rc) from g1)
  have G2 := Lib.hid (show w3.cell? ⟨g, openAt d * 3 + 2, none⟩ = some (.int .i64 (fileAt d (openAt d)).safe) from g2)
  have L0 := Lib.hid l0
  have Gf := Lib.hid gf
  clear hr hf hoo r3 he hrow lf hlf hlast hml hrm hrmn g0 g1 g2 gf l0 e2 e4 e5 hwr
  go_upto_region 8 with (first
    | (go_at_call 29; (with_reducible refine (ref_WholeOf d _ _ cf cl w3 Hda.out).mono ?_); rintro e w4 ⟨rfl, hb4⟩; rw [whole_eq Hok.out, hwh]; have HW4 := Lib.hid (HW.out.later hb4 hh); have q0 := HW4.out.db.box.cell 0 _ rfl; have q1 := HW4.out.db.box.cell 1 _ rfl; have z0 := HW4.out.two.cell 0 _ rfl; have z1 := HW4.out.two.cell 1 _ rfl; have zf := HW4.out.two.frozen))
  have HB4 := Lib.hid hb4
  clear hb4 q0 q1 z0 z1 zf p0 p1 p3
  refine wp_region_flow [.free 0, .calm 1, .calm 2, .calm 3, .calm 4, .calm 5, .free 6, .free 7] (Below w4.heap.size w4) (Below w4.heap.size w4) (stable_below _ _ (Nat.le_refl _)) (fun _ h => h) (by kernel_rfl) (by kernel_rfl) (below_drew1 (Below.refl _ _)) ?_
  simp only [pickEnts, pickF, List.getElem?_cons_succ, List.getElem?_cons_zero, List.filterMap_cons, List.filterMap_nil, Option.map_some]
  repeat ((first | refine flow_calm (fun K hK => ?_) | refine flow_free (fun K hK => ?_) | refine float_calm (fun K hK => ?_) | refine float_free (fun K hK => ?_)); go_simp; first | (refine hK _ ?_; clear hK K) | (apply Exists.intro; (refine ⟨fun X => ?_, hK _ ?_⟩); (first | (intro hC; rfl) | rfl | (intro hC; have q := HW4.out.db.box.later hC.out; have q0 := q.cell 0 _ rfl; have q1 := q.cell 1 _ rfl; go_simp; done) | (intro hC; have q := HW4.out.db.box.later hC.out; have q0 := q.cell 0 _ rfl; have q1 := q.cell 1 _ rfl; go_simp; rfl) | (intro hC; (with_reducible refine (ref_open d _ _ cf cl _ Hoo.out.ne (Hda.out.later (below_step HB4.out hC.out))).mono ?_); rintro e w' ⟨rfl, hb⟩; exact ⟨rfl, hb⟩) | (intro hC; (with_reducible refine (ref_file d _ _ cf cl (openNo d) _ (Hda.out.later (below_step HB4.out hC.out))).mono ?_); rintro e w' ⟨rfl, hb⟩; rw [Hpl.out]; exact ⟨rfl, hb⟩)); clear hK K))
  refine flow_nil ?_
  intro X hX
  have hbX := below_step HB4.out hX.out
  have hW5 := HW4.out.later hX.out hh
  have HW5 := Lib.hid hW5
  clear hX HW4 HB4
  have q0 := hW5.db.box.cell 0 _ rfl
  have p0 := hW5.step.cell 0 _ rfl
  have x0 : X.cell? ⟨g, m * 3, none⟩ = _ := cell_keep hbX L0.out
  have hwr := Hwr.out
  go_upto_region 10 with fail
  clear x0 hwr q0
  have x1 : X.cell? ⟨g, openAt d * 3 + 1, none⟩ = _ := cell_keep hbX G1.out
  have x2 : X.cell? ⟨g, openAt d * 3 + 2, none⟩ = _ := cell_keep hbX G2.out
  have xf : X.frozen? ⟨g, openAt d * 3 + 2, none⟩ = false := ((bcell hbX).2 g _ hgl).trans (Gf.out _)
  go_upto_region 24 with fail
  have hgt : ∃ cs, Cells X g cs 62 := by obtain ⟨_, cs, hc⟩ := own_ty hW5.db.files (k := g) rfl; exact ⟨cs, hc⟩
  have hW6 : MWork h0 w w.heap.size (w.heap.size + 1) (w.heap.size + 1 + 1) #[.int .i64 2, .int .i64 k, .int .i64 stop, .bool torn, .int .i64 n.do_, .int .i64 n.src, .int .i64 n.id, .int .i64 n.ver, .int .i64 n.body.at_, .int .i64 n.body.key, .int .i64 n.body.val] (.slice (some ⟨g, 0, none⟩) d.files.length cf) (.slice Al d.list.length cl) (rs.set (openAt d) ⟨(fileAt d (openAt d)).no, rA, (fileAt d (openAt d)).recs.length, rc, (fileAt d (openAt d)).recs.length⟩) (syncD d (openAt d)) (X.setCell ⟨g, openAt d * 3 + 2, none⟩ (.int .i64 ((fileAt d (openAt d)).recs.length : Int))) := by
    obtain ⟨cs, hc⟩ := hgt
    exact ⟨hW5.db.put_safe Hrr.out Hf.out rfl _, hW5.step.other (p := ⟨g, openAt d * 3 + 2, none⟩) (ty_ne (show _ from hW5.step) hc (by decide)) _, hW5.two.other (p := ⟨g, openAt d * 3 + 2, none⟩) (ty_ne (show _ from hW5.two) hc (by decide)) _, hW5.kp.setCell (p := ⟨g, openAt d * 3 + 2, none⟩) hg0 ⟨_, _, hc, .inr (.inl rfl)⟩ _⟩
  have HW6 := Lib.hid hW6
  clear hW6 hgt x1 x2 xf p0 hW5
  generalize (X.setCell ⟨g, openAt d * 3 + 2, none⟩ (.int .i64 ((fileAt d (openAt d)).recs.length : Int))) = w9 at HW6 ⊢
  have b0 := HW6.out.db.box.cell 0 _ rfl
  have b1 := HW6.out.db.box.cell 1 _ rfl
  have z0 := HW6.out.two.cell 0 _ rfl
  have z1 := HW6.out.two.cell 1 _ rfl
  have zf := HW6.out.two.frozen
  go_wp2
  have hv := (HW6.out.db.val.set HW6.out.two RowTy.disk 0 (.slice (some ⟨g, 0, none⟩) d.files.length cf)).set (HW6.out.two.setAt 0 (.slice (some ⟨g, 0, none⟩) d.files.length cf)) RowTy.disk 1 (.slice Al d.list.length cl)
  have y2 := (HW6.out.two.setAt 0 (.slice (some ⟨g, 0, none⟩) d.files.length cf)).setAt 1 (.slice Al d.list.length cl)
  have y0 := y2.cell 0 _ rfl
  have y1 := y2.cell 1 _ rfl
  have hkk := (HW6.out.kp.setFresh (p := ⟨w.heap.size + 1 + 1, 0, none⟩) (by simp only; omega) hh (.slice (some ⟨g, 0, none⟩) d.files.length cf)).setFresh (p := ⟨w.heap.size + 1 + 1, 1, none⟩) (by simp only; omega) hh (.slice Al d.list.length cl)
  refine bodyPost_ret (v := .tuple #[.agg #[(.slice (some ⟨g, 0, none⟩) d.files.length cf), (.slice Al d.list.length cl)], .bool true]) (by simp [results, Try.results75, go_sem, y0, y1]) rfl ?_
  exact ⟨_, _, _, rfl, hv, hkk⟩
theorem recs_small {d : SDisk} (h : DiskOk d) : ∀ f ∈ d.files, f.recs.length ≤ 50000 := fun f hf => by
  have h1 := h.total
  have h2 := mem_total hf
  omega
theorem ref_merge (d : SDisk) (h0 : Nat) (vf vl : Value) (rs : List RF) (k : Nat) (sdo stop : Int) (torn : Bool) (n : News) (w : World) (hd : DVal h0 w vf vl rs d) (hok : DiskOk d) (hh : h0 ≤ w.heap.size) :
    Calls Try.prog 96 #[.agg #[vf, vl], .agg #[.int .i64 sdo, .int .i64 k, .int .i64 stop, .bool torn, .int .i64 n.do_, .int .i64 n.src, .int .i64 n.id, .int .i64 n.ver, .int .i64 n.body.at_, .int .i64 n.body.key, .int .i64 n.body.val], .int .i64 (lastNo d + 1)] w (ValPost2 h0 (mergeD d k stop).2 (mergeD d k stop).1 w) := by
  have hr := hok.ready
  by_cases hg : d.list.length ≤ k + 2 ∨ fullB d = true
  · have e : mergeD d k stop = (d, false) := by rw [mergeD, if_pos hg]
    rw [e]
    exact ref_merge_no d h0 vf vl rs k sdo stop torn n w hd (by have := hr.list; omega) hh hg
  · exact ref_merge_do d h0 vf vl rs k sdo stop torn n w hd hr (recs_small hok) hh (by have := fun h => hg (.inl h); omega) (by
      cases h : fullB d with
      | false => rfl
      | true => exact absurd (.inr h) hg)
set_option maxRecDepth 100000 in
set_option maxHeartbeats 8000000 in
theorem ref_step_merge (d : SDisk) (h0 : Nat) (vf vl : Value) (rs : List RF) (k stop : Int) (torn : Bool) (n : News) (w : World) (hd : DVal h0 w vf vl rs d) (hok : DiskOk d) (hh : h0 ≤ w.heap.size) (kn : Nat) (hkn : k = kn) (hwh : wholeB d = true) :
    Calls Try.prog 75 #[.agg #[vf, vl], .agg #[.int .i64 4, .int .i64 k, .int .i64 stop, .bool torn, .int .i64 n.do_, .int .i64 n.src, .int .i64 n.id, .int .i64 n.ver, .int .i64 n.body.at_, .int .i64 n.body.key, .int .i64 n.body.val]] w (ValPost2 h0 (mergeD d kn stop).2 (mergeD d kn stop).1 w) := by
  subst hkn
  have hr := hok.ready
  have hl := hr.list
  have hfl := hr.files
  have hW := three_step w h0 #[.int .i64 4, .int .i64 (kn : Int), .int .i64 stop, .bool torn, .int .i64 n.do_, .int .i64 n.src, .int .i64 n.id, .int .i64 n.ver, .int .i64 n.body.at_, .int .i64 n.body.key, .int .i64 n.body.val] hd hh
  obtain ⟨Af, cf, Al, cl, rfl, rfl, hda⟩ := hd.reads
  have hcl := hda.capl
  have hcf := hda.capf
  have hmx : d.files.length ≤ 9223372036854775807 := hda.files.2.1
  have HW := Lib.hid hW
  have HB := Lib.hid ((three_new w #[.slice Af d.files.length cf, .slice Al d.list.length cl] #[.int .i64 4, .int .i64 (kn : Int), .int .i64 stop, .bool torn, .int .i64 n.do_, .int .i64 n.src, .int .i64 n.id, .int .i64 n.ver, .int .i64 n.body.at_, .int .i64 n.body.key, .int .i64 n.body.val] #[.slice none 0 0, .slice none 0 0] 33 58 33).2.2.2)
  have Hda0 := Lib.hid hda
  have Hok := Lib.hid hok
  have Hr := Lib.hid hr
  clear hW hd hda hok hr
  go_enter Try.func75, Try.ntmps75
  go_upto_region 1 with fail
  generalize (((w.alloc (.cells #[.slice Af d.files.length cf, .slice Al d.list.length cl] 33)).alloc (.cells #[.int .i64 4, .int .i64 (kn : Int), .int .i64 stop, .bool torn, .int .i64 n.do_, .int .i64 n.src, .int .i64 n.id, .int .i64 n.ver, .int .i64 n.body.at_, .int .i64 n.body.key, .int .i64 n.body.val] 58)).alloc (.cells #[.slice none 0 0, .slice none 0 0] 33)) = w3 at HW HB ⊢
  have Hda := Lib.hid (Hda0.out.later HB.out)
  clear Hda0
  have q0 := HW.out.db.box.cell 0 _ rfl
  have q1 := HW.out.db.box.cell 1 _ rfl
  have p0 := HW.out.step.cell 0 _ rfl
  have p1 := HW.out.step.cell 1 _ rfl
  have p3 := HW.out.step.cell 3 _ rfl
  have z0 := HW.out.two.cell 0 _ rfl
  have z1 := HW.out.two.cell 1 _ rfl
  have zf := HW.out.two.frozen
  have hoo := Hr.out.open
  have hil := hoo.lt
  have hf := fileAt_get hil
  have hsaf := Hr.out.safeAt hil
  have hrec := Hr.out.recsAt hil
  obtain ⟨r, hr⟩ : ∃ r, rs[openAt d]? = some r := ⟨_, List.getElem?_eq_getElem (by rw [HW.out.db.rows.len]; exact hil)⟩
  obtain ⟨r1, r2, r3⟩ := HW.out.db.rows.rel (openAt d) r _ hr hf
  obtain ⟨rno, rA, rn, rc, rsafe⟩ := r
  simp only at r1 r2
  subst r1 r2
  obtain ⟨A', c', he, hrc, hrow⟩ := own_reads' r3
  obtain rfl : rn = (fileAt d (openAt d)).recs.length := by injection he
  obtain rfl : rc = c' := by injection he
  obtain rfl : rA = A' := by injection he
  obtain ⟨lf, hlf, hlast⟩ := lastNo_get Hr.out.nos.ne
  have hlow := Hr.out.nos.low
  have hhigh := Hr.out.nos.high
  obtain ⟨m, hml⟩ : ∃ m, d.files.length = m + 1 := ⟨d.files.length - 1, by have := List.length_pos_iff.2 Hr.out.nos.ne; omega⟩
  have hmlt : m < d.files.length := by omega
  rw [show d.files.length - 1 = m by omega] at hlf
  obtain ⟨rm, hrm⟩ : ∃ r, rs[m]? = some r := ⟨_, List.getElem?_eq_getElem (by rw [HW.out.db.rows.len]; exact hmlt)⟩
  have hrmn := (HW.out.db.rows.rel m rm _ hrm hlf).1
  obtain ⟨g, cf', hvf, hg0, hgl, g0, g1, g2, gf⟩ := HW.out.db.cells hr
  obtain ⟨g', cf2, hvf2, -, -, l0, -, -, -⟩ := HW.out.db.cells hrm
  injection hvf with e1 e2 e3
  subst e1 e3
  injection hvf2 with e1 e4 e5
  injection e1 with e1
  injection e1 with e1
  subst e1
  rw [hrmn, ← hlast] at l0
  have hwr : IntKind.i64.wrap ((d.files.length : Int) - 1) = (m : Int) := by rw [IntWalk.i64_in _ (by omega)]; omega
  have Hwr := Lib.hid hwr
  have Hpl := Lib.hid (show placeOf d.files (openNo d) = (openAt d : Int) by rw [placeOf, hoo.at_])
  have Hrr := Lib.hid hr
  have Hf := Lib.hid hf
  have Hoo := Lib.hid hoo
  have Hrow := Lib.hid hrow
  have G1 := Lib.hid (show w3.cell? ⟨g, openAt d * 3 + 1, none⟩ = some (.slice rA (fileAt d (openAt d)).recs.length rc) from g1)
  have G2 := Lib.hid (show w3.cell? ⟨g, openAt d * 3 + 2, none⟩ = some (.int .i64 (fileAt d (openAt d)).safe) from g2)
  have L0 := Lib.hid l0
  have Gf := Lib.hid gf
  clear hr hf hoo r3 he hrow lf hlf hlast hml hrm hrmn g0 g1 g2 gf l0 e2 e4 e5 hwr
  go_upto_region 8 with (first
    | (go_at_call 29; (with_reducible refine (ref_WholeOf d _ _ cf cl w3 Hda.out).mono ?_); rintro e w4 ⟨rfl, hb4⟩; rw [whole_eq Hok.out, hwh]; have HW4 := Lib.hid (HW.out.later hb4 hh); have q0 := HW4.out.db.box.cell 0 _ rfl; have q1 := HW4.out.db.box.cell 1 _ rfl; have z0 := HW4.out.two.cell 0 _ rfl; have z1 := HW4.out.two.cell 1 _ rfl; have zf := HW4.out.two.frozen))
  have HB4 := Lib.hid hb4
  clear hb4 q0 q1 z0 z1 zf p0 p1 p3
  refine wp_region_flow [.free 0, .calm 1, .calm 2, .calm 3, .calm 4, .calm 5, .free 6, .free 7] (Below w4.heap.size w4) (Below w4.heap.size w4) (stable_below _ _ (Nat.le_refl _)) (fun _ h => h) (by kernel_rfl) (by kernel_rfl) (below_drew1 (Below.refl _ _)) ?_
  simp only [pickEnts, pickF, List.getElem?_cons_succ, List.getElem?_cons_zero, List.filterMap_cons, List.filterMap_nil, Option.map_some]
  repeat ((first | refine flow_calm (fun K hK => ?_) | refine flow_free (fun K hK => ?_) | refine float_calm (fun K hK => ?_) | refine float_free (fun K hK => ?_)); go_simp; first | (refine hK _ ?_; clear hK K) | (apply Exists.intro; (refine ⟨fun X => ?_, hK _ ?_⟩); (first | (intro hC; rfl) | rfl | (intro hC; have q := HW4.out.db.box.later hC.out; have q0 := q.cell 0 _ rfl; have q1 := q.cell 1 _ rfl; go_simp; done) | (intro hC; have q := HW4.out.db.box.later hC.out; have q0 := q.cell 0 _ rfl; have q1 := q.cell 1 _ rfl; go_simp; rfl) | (intro hC; (with_reducible refine (ref_open d _ _ cf cl _ Hoo.out.ne (Hda.out.later (below_step HB4.out hC.out))).mono ?_); rintro e w' ⟨rfl, hb⟩; exact ⟨rfl, hb⟩) | (intro hC; (with_reducible refine (ref_file d _ _ cf cl (openNo d) _ (Hda.out.later (below_step HB4.out hC.out))).mono ?_); rintro e w' ⟨rfl, hb⟩; rw [Hpl.out]; exact ⟨rfl, hb⟩)); clear hK K))
  refine flow_nil ?_
  intro X hX
  have hbX := below_step HB4.out hX.out
  have hW5 := HW4.out.later hX.out hh
  have HW5 := Lib.hid hW5
  clear hX HW4 HB4
  have q0 := hW5.db.box.cell 0 _ rfl
  have p0 := hW5.step.cell 0 _ rfl
  have x0 : X.cell? ⟨g, m * 3, none⟩ = _ := cell_keep hbX L0.out
  have hwr := Hwr.out
  go_upto_region 10 with fail
  clear x0 hwr q0
  have q0 := HW5.out.db.box.cell 0 _ rfl
  have q1 := HW5.out.db.box.cell 1 _ rfl
  have p1 := HW5.out.step.cell 1 _ rfl
  have p2 := HW5.out.step.cell 2 _ rfl
  have p3 := HW5.out.step.cell 3 _ rfl
  have p4 := HW5.out.step.cell 4 _ rfl
  have p5 := HW5.out.step.cell 5 _ rfl
  have p6 := HW5.out.step.cell 6 _ rfl
  have p7 := HW5.out.step.cell 7 _ rfl
  have p8 := HW5.out.step.cell 8 _ rfl
  have p9 := HW5.out.step.cell 9 _ rfl
  have p10 := HW5.out.step.cell 10 _ rfl
  have hw1 : IntKind.i64.wrap (lastNo d + 1) = lastNo d + 1 := by rw [IntWalk.i64_in _ (by omega)]
  clear hW5
  go_wp2_with (first
    | (go_at_call 96; (with_reducible refine (ref_merge d h0 _ _ rs kn 4 stop torn n X HW5.out.db.val Hok.out (HW5.out.size hh)).mono ?_); rintro e w8 ⟨vf8, vl8, rs8, rfl, hv8, hk8⟩; obtain ⟨A8, n8, c8, rfl⟩ := R_slice' hv8.files; obtain ⟨B8, m8, e8, rfl⟩ := R_slice' hv8.list; have hz8 : Cells w8 _ _ _ := hk8.cells HW5.out.two not_mine_disk; have z0 := hz8.cell 0 _ rfl; have z1 := hz8.cell 1 _ rfl; have zf := hz8.frozen))
  have hvv := (hv8.set hz8 RowTy.disk 0 (.slice A8 n8 c8)).set (hz8.setAt 0 (.slice A8 n8 c8)) RowTy.disk 1 (.slice B8 m8 e8)
  have y2 := (hz8.setAt 0 (.slice A8 n8 c8)).setAt 1 (.slice B8 m8 e8)
  have y0 := y2.cell 0 _ rfl
  have y1 := y2.cell 1 _ rfl
  have hkk := ((HW5.out.kp.trans hk8).setFresh (p := ⟨w.heap.size + 1 + 1, 0, none⟩) (by simp only; omega) hh (.slice A8 n8 c8)).setFresh (p := ⟨w.heap.size + 1 + 1, 1, none⟩) (by simp only; omega) hh (.slice B8 m8 e8)
  refine bodyPost_ret (v := .tuple #[.agg #[.slice A8 n8 c8, .slice B8 m8 e8], .bool (mergeD d kn stop).2]) (by simp [results, Try.results75, go_sem, y0, y1]) rfl ?_
  exact ⟨_, _, _, rfl, hvv, hkk⟩
set_option maxRecDepth 100000 in
set_option maxHeartbeats 8000000 in
theorem ref_step_seal (d : SDisk) (h0 : Nat) (vf vl : Value) (rs : List RF) (k stop : Int) (torn : Bool) (n : News) (w : World) (hd : DVal h0 w vf vl rs d) (hok : DiskOk d) (hh : h0 ≤ w.heap.size) (hwh : wholeB d = true) :
    Calls Try.prog 75 #[.agg #[vf, vl], .agg #[.int .i64 3, .int .i64 k, .int .i64 stop, .bool torn, .int .i64 n.do_, .int .i64 n.src, .int .i64 n.id, .int .i64 n.ver, .int .i64 n.body.at_, .int .i64 n.body.key, .int .i64 n.body.val]] w (ValPost2 h0 (sealD d (openAt d)).2 (sealD d (openAt d)).1 w) := by
  have hr := hok.ready
  have hl := hr.list
  have hfl := hr.files
  have hW := three_step w h0 #[.int .i64 3, .int .i64 k, .int .i64 stop, .bool torn, .int .i64 n.do_, .int .i64 n.src, .int .i64 n.id, .int .i64 n.ver, .int .i64 n.body.at_, .int .i64 n.body.key, .int .i64 n.body.val] hd hh
  obtain ⟨Af, cf, Al, cl, rfl, rfl, hda⟩ := hd.reads
  have hcl := hda.capl
  have hcf := hda.capf
  have hmx : d.files.length ≤ 9223372036854775807 := hda.files.2.1
  have HW := Lib.hid hW
  have HB := Lib.hid ((three_new w #[.slice Af d.files.length cf, .slice Al d.list.length cl] #[.int .i64 3, .int .i64 k, .int .i64 stop, .bool torn, .int .i64 n.do_, .int .i64 n.src, .int .i64 n.id, .int .i64 n.ver, .int .i64 n.body.at_, .int .i64 n.body.key, .int .i64 n.body.val] #[.slice none 0 0, .slice none 0 0] 33 58 33).2.2.2)
  have Hda0 := Lib.hid hda
  have Hok := Lib.hid hok
  have Hr := Lib.hid hr
  clear hW hd hda hok hr
  go_enter Try.func75, Try.ntmps75
  go_upto_region 1 with fail
  generalize (((w.alloc (.cells #[.slice Af d.files.length cf, .slice Al d.list.length cl] 33)).alloc (.cells #[.int .i64 3, .int .i64 k, .int .i64 stop, .bool torn, .int .i64 n.do_, .int .i64 n.src, .int .i64 n.id, .int .i64 n.ver, .int .i64 n.body.at_, .int .i64 n.body.key, .int .i64 n.body.val] 58)).alloc (.cells #[.slice none 0 0, .slice none 0 0] 33)) = w3 at HW HB ⊢
  have Hda := Lib.hid (Hda0.out.later HB.out)
  clear Hda0
  have q0 := HW.out.db.box.cell 0 _ rfl
  have q1 := HW.out.db.box.cell 1 _ rfl
  have p0 := HW.out.step.cell 0 _ rfl
  have p1 := HW.out.step.cell 1 _ rfl
  have p3 := HW.out.step.cell 3 _ rfl
  have z0 := HW.out.two.cell 0 _ rfl
  have z1 := HW.out.two.cell 1 _ rfl
  have zf := HW.out.two.frozen
  have hoo := Hr.out.open
  have hil := hoo.lt
  have hf := fileAt_get hil
  have hsaf := Hr.out.safeAt hil
  have hrec := Hr.out.recsAt hil
  obtain ⟨r, hr⟩ : ∃ r, rs[openAt d]? = some r := ⟨_, List.getElem?_eq_getElem (by rw [HW.out.db.rows.len]; exact hil)⟩
  obtain ⟨r1, r2, r3⟩ := HW.out.db.rows.rel (openAt d) r _ hr hf
  obtain ⟨rno, rA, rn, rc, rsafe⟩ := r
  simp only at r1 r2
  subst r1 r2
  obtain ⟨A', c', he, hrc, hrow⟩ := own_reads' r3
  obtain rfl : rn = (fileAt d (openAt d)).recs.length := by injection he
  obtain rfl : rc = c' := by injection he
  obtain rfl : rA = A' := by injection he
  obtain ⟨lf, hlf, hlast⟩ := lastNo_get Hr.out.nos.ne
  have hlow := Hr.out.nos.low
  have hhigh := Hr.out.nos.high
  obtain ⟨m, hml⟩ : ∃ m, d.files.length = m + 1 := ⟨d.files.length - 1, by have := List.length_pos_iff.2 Hr.out.nos.ne; omega⟩
  have hmlt : m < d.files.length := by omega
  rw [show d.files.length - 1 = m by omega] at hlf
  obtain ⟨rm, hrm⟩ : ∃ r, rs[m]? = some r := ⟨_, List.getElem?_eq_getElem (by rw [HW.out.db.rows.len]; exact hmlt)⟩
  have hrmn := (HW.out.db.rows.rel m rm _ hrm hlf).1
  obtain ⟨g, cf', hvf, hg0, hgl, g0, g1, g2, gf⟩ := HW.out.db.cells hr
  obtain ⟨g', cf2, hvf2, -, -, l0, -, -, -⟩ := HW.out.db.cells hrm
  injection hvf with e1 e2 e3
  subst e1 e3
  injection hvf2 with e1 e4 e5
  injection e1 with e1
  injection e1 with e1
  subst e1
  rw [hrmn, ← hlast] at l0
  have hwr : IntKind.i64.wrap ((d.files.length : Int) - 1) = (m : Int) := by rw [IntWalk.i64_in _ (by omega)]; omega
  have Hwr := Lib.hid hwr
  have Hpl := Lib.hid (show placeOf d.files (openNo d) = (openAt d : Int) by rw [placeOf, hoo.at_])
  have Hrr := Lib.hid hr
  have Hf := Lib.hid hf
  have Hoo := Lib.hid hoo
  have Hrow := Lib.hid hrow
  have G1 := Lib.hid (show w3.cell? ⟨g, openAt d * 3 + 1, none⟩ = some (.slice rA (fileAt d (openAt d)).recs.length rc) from g1)
  have G2 := Lib.hid (show w3.cell? ⟨g, openAt d * 3 + 2, none⟩ = some (.int .i64 (fileAt d (openAt d)).safe) from g2)
  have L0 := Lib.hid l0
  have Gf := Lib.hid gf
  clear hr hf hoo r3 he hrow lf hlf hlast hml hrm hrmn g0 g1 g2 gf l0 e2 e4 e5 hwr
  go_upto_region 8 with (first
    | (go_at_call 29; (with_reducible refine (ref_WholeOf d _ _ cf cl w3 Hda.out).mono ?_); rintro e w4 ⟨rfl, hb4⟩; rw [whole_eq Hok.out, hwh]; have HW4 := Lib.hid (HW.out.later hb4 hh); have q0 := HW4.out.db.box.cell 0 _ rfl; have q1 := HW4.out.db.box.cell 1 _ rfl; have z0 := HW4.out.two.cell 0 _ rfl; have z1 := HW4.out.two.cell 1 _ rfl; have zf := HW4.out.two.frozen))
  have HB4 := Lib.hid hb4
  clear hb4 q0 q1 z0 z1 zf p0 p1 p3
  refine wp_region_flow [.free 0, .calm 1, .calm 2, .calm 3, .calm 4, .calm 5, .free 6, .free 7] (Below w4.heap.size w4) (Below w4.heap.size w4) (stable_below _ _ (Nat.le_refl _)) (fun _ h => h) (by kernel_rfl) (by kernel_rfl) (below_drew1 (Below.refl _ _)) ?_
  simp only [pickEnts, pickF, List.getElem?_cons_succ, List.getElem?_cons_zero, List.filterMap_cons, List.filterMap_nil, Option.map_some]
  repeat ((first | refine flow_calm (fun K hK => ?_) | refine flow_free (fun K hK => ?_) | refine float_calm (fun K hK => ?_) | refine float_free (fun K hK => ?_)); go_simp; first | (refine hK _ ?_; clear hK K) | (apply Exists.intro; (refine ⟨fun X => ?_, hK _ ?_⟩); (first | (intro hC; rfl) | rfl | (intro hC; have q := HW4.out.db.box.later hC.out; have q0 := q.cell 0 _ rfl; have q1 := q.cell 1 _ rfl; go_simp; done) | (intro hC; have q := HW4.out.db.box.later hC.out; have q0 := q.cell 0 _ rfl; have q1 := q.cell 1 _ rfl; go_simp; rfl) | (intro hC; (with_reducible refine (ref_open d _ _ cf cl _ Hoo.out.ne (Hda.out.later (below_step HB4.out hC.out))).mono ?_); rintro e w' ⟨rfl, hb⟩; exact ⟨rfl, hb⟩) | (intro hC; (with_reducible refine (ref_file d _ _ cf cl (openNo d) _ (Hda.out.later (below_step HB4.out hC.out))).mono ?_); rintro e w' ⟨rfl, hb⟩; rw [Hpl.out]; exact ⟨rfl, hb⟩)); clear hK K))
  refine flow_nil ?_
  intro X hX
  have hbX := below_step HB4.out hX.out
  have hW5 := HW4.out.later hX.out hh
  have HW5 := Lib.hid hW5
  clear hX HW4 HB4
  have q0 := hW5.db.box.cell 0 _ rfl
  have p0 := hW5.step.cell 0 _ rfl
  have x0 : X.cell? ⟨g, m * 3, none⟩ = _ := cell_keep hbX L0.out
  have hwr := Hwr.out
  go_upto_region 10 with fail
  clear x0 hwr q0
  by_cases hno : 8 ≤ d.list.length ∨ fullB d = true
  · have hw := Lib.hid (show sealD d (openAt d) = (d, false) by rw [sealD, if_pos hno])
    have hways : decide ((8 : Int) ≤ d.list.length) = true ∨ (decide ((8 : Int) ≤ d.list.length) = false ∧ (lastNo d == 9999) = true) := by
      rcases hno with h | h
      · left; simp; omega
      · by_cases h8 : 8 ≤ d.list.length
        · left; simp; omega
        · right
          simp only [fullB, decide_eq_true_eq] at h
          exact ⟨by simp; omega, by simp; omega⟩
    have q0 := HW5.out.db.box.cell 0 _ rfl
    have q1 := HW5.out.db.box.cell 1 _ rfl
    have z0 := HW5.out.two.cell 0 _ rfl
    have z1 := HW5.out.two.cell 1 _ rfl
    have zf := HW5.out.two.frozen
    clear hW5
    rcases hways with h1 | ⟨h1, h2⟩
    all_goals
      go_wp2
      have hv := (HW5.out.db.val.set HW5.out.two RowTy.disk 0 (.slice (some ⟨g, 0, none⟩) d.files.length cf)).set (HW5.out.two.setAt 0 (.slice (some ⟨g, 0, none⟩) d.files.length cf)) RowTy.disk 1 (.slice Al d.list.length cl)
      have y2 := (HW5.out.two.setAt 0 (.slice (some ⟨g, 0, none⟩) d.files.length cf)).setAt 1 (.slice Al d.list.length cl)
      have y0 := y2.cell 0 _ rfl
      have y1 := y2.cell 1 _ rfl
      have hkk := (HW5.out.kp.setFresh (p := ⟨w.heap.size + 1 + 1, 0, none⟩) (by simp only; omega) hh (.slice (some ⟨g, 0, none⟩) d.files.length cf)).setFresh (p := ⟨w.heap.size + 1 + 1, 1, none⟩) (by simp only; omega) hh (.slice Al d.list.length cl)
      refine bodyPost_ret (v := .tuple #[.agg #[(.slice (some ⟨g, 0, none⟩) d.files.length cf), (.slice Al d.list.length cl)], .bool false]) (by simp [results, Try.results75, go_sem, y0, y1]) rfl ?_
      rw [hw.out]
      exact ⟨_, _, _, rfl, hv, hkk⟩
  · have hw := Lib.hid (show sealD d (openAt d) = (⟨(freshD (syncD d (openAt d)) []).files, d.list ++ [lastNo d + 1]⟩, true) by rw [sealD, if_neg hno])
    have h8 : decide ((8 : Int) ≤ d.list.length) = false := by simp only [decide_eq_false_iff_not]; intro h; exact hno (.inl (by omega))
    have h9 : (lastNo d == 9999) = false := by
      have h : fullB d = false := by
        cases h : fullB d with
        | false => rfl
        | true => exact absurd (.inr h) hno
      simp only [fullB, decide_eq_false_iff_not] at h
      simp; omega
    have hw1 : IntKind.i64.wrap (lastNo d + 1) = lastNo d + 1 := by rw [IntWalk.i64_in _ (by omega)]
    have hll : d.list.length < 8 := Nat.lt_of_not_le fun h => hno (.inl h)
    have hlasts : lastNo (syncD d (openAt d)) = lastNo d := lastNo_set d (openAt d) _ _
    have Hlasts := Lib.hid hlasts
    have Hw1 := Lib.hid hw1
    have x1 : X.cell? ⟨g, openAt d * 3 + 1, none⟩ = _ := cell_keep hbX G1.out
    have x2 : X.cell? ⟨g, openAt d * 3 + 2, none⟩ = _ := cell_keep hbX G2.out
    have xf : X.frozen? ⟨g, openAt d * 3 + 2, none⟩ = false := ((bcell hbX).2 g _ hgl).trans (Gf.out _)
    have q1 := HW5.out.db.box.cell 1 _ rfl
    clear hw1 hlasts hno
    go_upto_region 22 with fail
    have hgt : ∃ cs, Cells X g cs 62 := by obtain ⟨_, cs, hc⟩ := own_ty hW5.db.files (k := g) rfl; exact ⟨cs, hc⟩
    have hW6 : MWork h0 w w.heap.size (w.heap.size + 1) (w.heap.size + 1 + 1) #[.int .i64 3, .int .i64 k, .int .i64 stop, .bool torn, .int .i64 n.do_, .int .i64 n.src, .int .i64 n.id, .int .i64 n.ver, .int .i64 n.body.at_, .int .i64 n.body.key, .int .i64 n.body.val] (.slice (some ⟨g, 0, none⟩) d.files.length cf) (.slice Al d.list.length cl) (rs.set (openAt d) ⟨(fileAt d (openAt d)).no, rA, (fileAt d (openAt d)).recs.length, rc, (fileAt d (openAt d)).recs.length⟩) (syncD d (openAt d)) (X.setCell ⟨g, openAt d * 3 + 2, none⟩ (.int .i64 ((fileAt d (openAt d)).recs.length : Int))) := by
      obtain ⟨cs, hc⟩ := hgt
      exact ⟨hW5.db.put_safe Hrr.out Hf.out rfl _, hW5.step.other (p := ⟨g, openAt d * 3 + 2, none⟩) (ty_ne (show _ from hW5.step) hc (by decide)) _, hW5.two.other (p := ⟨g, openAt d * 3 + 2, none⟩) (ty_ne (show _ from hW5.two) hc (by decide)) _, hW5.kp.setCell (p := ⟨g, openAt d * 3 + 2, none⟩) hg0 ⟨_, _, hc, .inr (.inl rfl)⟩ _⟩
    have HW6 := Lib.hid hW6
    clear hW6 hgt x1 x2 xf p0 hW5 q1 h8 h9
    generalize (X.setCell ⟨g, openAt d * 3 + 2, none⟩ (.int .i64 ((fileAt d (openAt d)).recs.length : Int))) = w9 at HW6 ⊢
    have hrl := HW6.out.db.rows.len
    simp only [syncD, List.length_set] at hrl
    have q0 := HW6.out.db.box.cell 0 _ rfl
    have hw1 := Hw1.out
    have hsz := HW6.out.size hh
    go_upto_region 23 with (at_builtin; refine Kd.R_append kRF (w0 := w9) h0 rfl _ _ 30 62 (.agg #[.int .i64 0, .slice none 0 0, .int .i64 0]) 40 rfl (by kernel_rfl) (by kernel_rfl) rfl (by decide) (by omega) (.slice (some ⟨g, 0, none⟩) d.files.length cf) (rs.set (openAt d) ⟨(fileAt d (openAt d)).no, rA, (fileAt d (openAt d)).recs.length, rc, (fileAt d (openAt d)).recs.length⟩) ⟨lastNo d + 1, none, 0, 0, 0⟩ [.int .i64 (lastNo d + 1), .slice none 0 0, .int .i64 0] (fun _ => True) (fun _ => False) rfl rfl (kRF_mkM _ _ _ ⟨lastNo d + 1, none, 0, 0, 0⟩) (fun _ h => h.elim) (fun _ _ => trivial) HW6.out.db.files (Below.refl _ _) hsz (by simp only [List.length_set]; omega) ?_; intro v1 w6 r1 r2 r3 r4; obtain ⟨A1, n1, c1, rfl⟩ := R_slice' r1; have hbx := HW6.out.db.box.kept r3 HW6.out.db.box_ne.1; have x0 := hbx.cell 0 _ rfl; have xf := hbx.frozen 0)
    have hrows := rows_snoc_own HW6.out.db.files HW6.out.db.rows r3 ⟨lastNo d + 1, none, 0, 0, 0⟩ ⟨lastNo d + 1, [], 0⟩ rfl rfl (Kd.R_nil _ _ _ _ _) (fun s hs m hm e => by cases e)
    have hst6 := HW6.out.step.kept r3 (fun e => by obtain ⟨_, cs, hc⟩ := own_ty HW6.out.db.files e.symm; exact absurd (cells_ty (show Cells w9 _ _ _ from hc) HW6.out.step) (by decide))
    have htw6 := HW6.out.two.kept r3 (fun e => by obtain ⟨_, cs, hc⟩ := own_ty HW6.out.db.files e.symm; exact absurd (cells_ty (show Cells w9 _ _ _ from hc) HW6.out.two) (by decide))
    have hfd : (freshD (syncD d (openAt d)) []).files = (syncD d (openAt d)).files ++ [⟨lastNo d + 1, [], 0⟩] := by rw [freshD, Hlasts.out]; rfl
    have hW7 : MWork h0 w w.heap.size (w.heap.size + 1) (w.heap.size + 1 + 1) #[.int .i64 3, .int .i64 k, .int .i64 stop, .bool torn, .int .i64 n.do_, .int .i64 n.src, .int .i64 n.id, .int .i64 n.ver, .int .i64 n.body.at_, .int .i64 n.body.key, .int .i64 n.body.val] (.slice A1 n1 c1) (.slice Al d.list.length cl) ((rs.set (openAt d) ⟨(fileAt d (openAt d)).no, rA, (fileAt d (openAt d)).recs.length, rc, (fileAt d (openAt d)).recs.length⟩) ++ [⟨lastNo d + 1, none, 0, 0, 0⟩]) ⟨(freshD (syncD d (openAt d)) []).files, d.list⟩ (w6.setCell ⟨w.heap.size, 0, none⟩ (.slice A1 n1 c1)) :=
      ⟨by rw [hfd]; exact HW6.out.db.put_files r3 _ _ _ r1 hrows, hst6.other (p := ⟨w.heap.size, 0, none⟩) (by simp) _, htw6.other (p := ⟨w.heap.size, 0, none⟩) (by simp only; omega) _, (HW6.out.kp.grown r2 r3 HW6.out.db.mineV).setFresh (p := ⟨w.heap.size, 0, none⟩) (Nat.le_refl _) hh _⟩
    have HW7 := Lib.hid hW7
    clear hrows hst6 htw6 hfd hW7 hbx x0 xf r1 r2 r3 r4 hrl hsz q0
    generalize (w6.setCell ⟨w.heap.size, 0, none⟩ (.slice A1 n1 c1)) = w7 at HW7 ⊢
    have q1 := HW7.out.db.box.cell 1 _ rfl
    have hsz := HW7.out.size hh
    go_upto_region 24 with (at_builtin; refine Kd.R_append (Kd.int .i64) (w0 := w7) h0 rfl _ _ 31 3 (.int .i64 0) 8 rfl (by kernel_rfl) (by kernel_rfl) rfl (by decide) (by omega) (.slice Al d.list.length cl) d.list (lastNo d + 1) [.int .i64 (lastNo d + 1)] (fun _ => True) (fun _ => False) rfl rfl rfl (fun _ h => h.elim) (fun _ _ => trivial) HW7.out.db.list (Below.refl _ _) hsz (by omega) ?_; intro v1 w10 r1 r2 r3 r4; obtain ⟨A7, n7, c7, rfl⟩ := R_slice' r1; have hbx := HW7.out.db.box.kept r3 HW7.out.db.box_ne.2; have x1 := hbx.cell 1 _ rfl; have xf := hbx.frozen 1)
    have hst8 := HW7.out.step.kept r3 (fun e => by obtain ⟨_, cs, hc⟩ := own_ty HW7.out.db.list e.symm; exact absurd (cells_ty (show Cells w7 _ _ _ from hc) HW7.out.step) (by decide))
    have htw8 := HW7.out.two.kept r3 (fun e => by obtain ⟨_, cs, hc⟩ := own_ty HW7.out.db.list e.symm; exact absurd (cells_ty (show Cells w7 _ _ _ from hc) HW7.out.two) (by decide))
    have hW8 : MWork h0 w w.heap.size (w.heap.size + 1) (w.heap.size + 1 + 1) #[.int .i64 3, .int .i64 k, .int .i64 stop, .bool torn, .int .i64 n.do_, .int .i64 n.src, .int .i64 n.id, .int .i64 n.ver, .int .i64 n.body.at_, .int .i64 n.body.key, .int .i64 n.body.val] (.slice A1 n1 c1) (.slice A7 n7 c7) ((rs.set (openAt d) ⟨(fileAt d (openAt d)).no, rA, (fileAt d (openAt d)).recs.length, rc, (fileAt d (openAt d)).recs.length⟩) ++ [⟨lastNo d + 1, none, 0, 0, 0⟩]) ⟨(freshD (syncD d (openAt d)) []).files, d.list ++ [lastNo d + 1]⟩ (w10.setCell ⟨w.heap.size, 1, none⟩ (.slice A7 n7 c7)) :=
      ⟨HW7.out.db.put_list r3 _ _ r1, hst8.other (p := ⟨w.heap.size, 1, none⟩) (by simp) _, htw8.other (p := ⟨w.heap.size, 1, none⟩) (by simp only; omega) _, (HW7.out.kp.grown r2 r3 HW7.out.db.mineL).setFresh (p := ⟨w.heap.size, 1, none⟩) (Nat.le_refl _) hh _⟩
    have HW8 := Lib.hid hW8
    clear hst8 htw8 hW8 hbx x1 xf r1 r2 r3 r4 hsz q1 hw1
    generalize (w10.setCell ⟨w.heap.size, 1, none⟩ (.slice A7 n7 c7)) = w11 at HW8 ⊢
    have b0 := HW8.out.db.box.cell 0 _ rfl
    have b1 := HW8.out.db.box.cell 1 _ rfl
    have z0 := HW8.out.two.cell 0 _ rfl
    have z1 := HW8.out.two.cell 1 _ rfl
    have zf := HW8.out.two.frozen
    go_wp2
    have hv := (HW8.out.db.val.set HW8.out.two RowTy.disk 0 (.slice A1 n1 c1)).set (HW8.out.two.setAt 0 (.slice A1 n1 c1)) RowTy.disk 1 (.slice A7 n7 c7)
    have y2 := (HW8.out.two.setAt 0 (.slice A1 n1 c1)).setAt 1 (.slice A7 n7 c7)
    have y0 := y2.cell 0 _ rfl
    have y1 := y2.cell 1 _ rfl
    have hkk := (HW8.out.kp.setFresh (p := ⟨w.heap.size + 1 + 1, 0, none⟩) (by simp only; omega) hh (.slice A1 n1 c1)).setFresh (p := ⟨w.heap.size + 1 + 1, 1, none⟩) (by simp only; omega) hh (.slice A7 n7 c7)
    refine bodyPost_ret (v := .tuple #[.agg #[(.slice A1 n1 c1), (.slice A7 n7 c7)], .bool true]) (by simp [results, Try.results75, go_sem, y0, y1]) rfl ?_
    rw [hw.out]
    exact ⟨_, _, _, rfl, hv, hkk⟩
set_option maxRecDepth 100000 in
set_option maxHeartbeats 8000000 in
theorem ref_step_write (d : SDisk) (h0 : Nat) (vf vl : Value) (rs : List RF) (k stop : Int) (torn : Bool) (n : News) (w : World) (hd : DVal h0 w vf vl rs d) (hok : DiskOk d) (hh : h0 ≤ w.heap.size) (hwh : wholeB d = true) :
    Calls Try.prog 75 #[.agg #[vf, vl], .agg #[.int .i64 1, .int .i64 k, .int .i64 stop, .bool torn, .int .i64 n.do_, .int .i64 n.src, .int .i64 n.id, .int .i64 n.ver, .int .i64 n.body.at_, .int .i64 n.body.key, .int .i64 n.body.val]] w (ValPost2 h0 (writeD d (openAt d) n).2 (writeD d (openAt d) n).1 w) := by
  have hr := hok.ready
  have hl := hr.list
  have hfl := hr.files
  have hW := three_step w h0 #[.int .i64 1, .int .i64 k, .int .i64 stop, .bool torn, .int .i64 n.do_, .int .i64 n.src, .int .i64 n.id, .int .i64 n.ver, .int .i64 n.body.at_, .int .i64 n.body.key, .int .i64 n.body.val] hd hh
  obtain ⟨Af, cf, Al, cl, rfl, rfl, hda⟩ := hd.reads
  have hcl := hda.capl
  have hcf := hda.capf
  have hmx : d.files.length ≤ 9223372036854775807 := hda.files.2.1
  have HW := Lib.hid hW
  have HB := Lib.hid ((three_new w #[.slice Af d.files.length cf, .slice Al d.list.length cl] #[.int .i64 1, .int .i64 k, .int .i64 stop, .bool torn, .int .i64 n.do_, .int .i64 n.src, .int .i64 n.id, .int .i64 n.ver, .int .i64 n.body.at_, .int .i64 n.body.key, .int .i64 n.body.val] #[.slice none 0 0, .slice none 0 0] 33 58 33).2.2.2)
  have Hda0 := Lib.hid hda
  have Hok := Lib.hid hok
  have Hr := Lib.hid hr
  clear hW hd hda hok hr
  go_enter Try.func75, Try.ntmps75
  go_upto_region 1 with fail
  generalize (((w.alloc (.cells #[.slice Af d.files.length cf, .slice Al d.list.length cl] 33)).alloc (.cells #[.int .i64 1, .int .i64 k, .int .i64 stop, .bool torn, .int .i64 n.do_, .int .i64 n.src, .int .i64 n.id, .int .i64 n.ver, .int .i64 n.body.at_, .int .i64 n.body.key, .int .i64 n.body.val] 58)).alloc (.cells #[.slice none 0 0, .slice none 0 0] 33)) = w3 at HW HB ⊢
  have Hda := Lib.hid (Hda0.out.later HB.out)
  clear Hda0
  have q0 := HW.out.db.box.cell 0 _ rfl
  have q1 := HW.out.db.box.cell 1 _ rfl
  have p0 := HW.out.step.cell 0 _ rfl
  have p1 := HW.out.step.cell 1 _ rfl
  have p3 := HW.out.step.cell 3 _ rfl
  have z0 := HW.out.two.cell 0 _ rfl
  have z1 := HW.out.two.cell 1 _ rfl
  have zf := HW.out.two.frozen
  have hoo := Hr.out.open
  have hil := hoo.lt
  have hf := fileAt_get hil
  have hsaf := Hr.out.safeAt hil
  have hrec := Hr.out.recsAt hil
  obtain ⟨r, hr⟩ : ∃ r, rs[openAt d]? = some r := ⟨_, List.getElem?_eq_getElem (by rw [HW.out.db.rows.len]; exact hil)⟩
  obtain ⟨r1, r2, r3⟩ := HW.out.db.rows.rel (openAt d) r _ hr hf
  obtain ⟨rno, rA, rn, rc, rsafe⟩ := r
  simp only at r1 r2
  subst r1 r2
  obtain ⟨A', c', he, hrc, hrow⟩ := own_reads' r3
  obtain rfl : rn = (fileAt d (openAt d)).recs.length := by injection he
  obtain rfl : rc = c' := by injection he
  obtain rfl : rA = A' := by injection he
  obtain ⟨lf, hlf, hlast⟩ := lastNo_get Hr.out.nos.ne
  have hlow := Hr.out.nos.low
  have hhigh := Hr.out.nos.high
  obtain ⟨m, hml⟩ : ∃ m, d.files.length = m + 1 := ⟨d.files.length - 1, by have := List.length_pos_iff.2 Hr.out.nos.ne; omega⟩
  have hmlt : m < d.files.length := by omega
  rw [show d.files.length - 1 = m by omega] at hlf
  obtain ⟨rm, hrm⟩ : ∃ r, rs[m]? = some r := ⟨_, List.getElem?_eq_getElem (by rw [HW.out.db.rows.len]; exact hmlt)⟩
  have hrmn := (HW.out.db.rows.rel m rm _ hrm hlf).1
  obtain ⟨g, cf', hvf, hg0, hgl, g0, g1, g2, gf⟩ := HW.out.db.cells hr
  obtain ⟨g', cf2, hvf2, -, -, l0, -, -, -⟩ := HW.out.db.cells hrm
  injection hvf with e1 e2 e3
  subst e1 e3
  injection hvf2 with e1 e4 e5
  injection e1 with e1
  injection e1 with e1
  subst e1
  rw [hrmn, ← hlast] at l0
  have hwr : IntKind.i64.wrap ((d.files.length : Int) - 1) = (m : Int) := by rw [IntWalk.i64_in _ (by omega)]; omega
  have Hwr := Lib.hid hwr
  have Hpl := Lib.hid (show placeOf d.files (openNo d) = (openAt d : Int) by rw [placeOf, hoo.at_])
  have Hrr := Lib.hid hr
  have Hf := Lib.hid hf
  have Hoo := Lib.hid hoo
  have Hrow := Lib.hid hrow
  have G1 := Lib.hid (show w3.cell? ⟨g, openAt d * 3 + 1, none⟩ = some (.slice rA (fileAt d (openAt d)).recs.length rc) from g1)
  have G2 := Lib.hid (show w3.cell? ⟨g, openAt d * 3 + 2, none⟩ = some (.int .i64 (fileAt d (openAt d)).safe) from g2)
  have L0 := Lib.hid l0
  have Gf := Lib.hid gf
  clear hr hf hoo r3 he hrow lf hlf hlast hml hrm hrmn g0 g1 g2 gf l0 e2 e4 e5 hwr
  go_upto_region 8 with (first
    | (go_at_call 29; (with_reducible refine (ref_WholeOf d _ _ cf cl w3 Hda.out).mono ?_); rintro e w4 ⟨rfl, hb4⟩; rw [whole_eq Hok.out, hwh]; have HW4 := Lib.hid (HW.out.later hb4 hh); have q0 := HW4.out.db.box.cell 0 _ rfl; have q1 := HW4.out.db.box.cell 1 _ rfl; have z0 := HW4.out.two.cell 0 _ rfl; have z1 := HW4.out.two.cell 1 _ rfl; have zf := HW4.out.two.frozen))
  have HB4 := Lib.hid hb4
  clear hb4 q0 q1 z0 z1 zf p0 p1 p3
  refine wp_region_flow [.free 0, .calm 1, .calm 2, .calm 3, .calm 4, .calm 5, .free 6, .free 7] (Below w4.heap.size w4) (Below w4.heap.size w4) (stable_below _ _ (Nat.le_refl _)) (fun _ h => h) (by kernel_rfl) (by kernel_rfl) (below_drew1 (Below.refl _ _)) ?_
  simp only [pickEnts, pickF, List.getElem?_cons_succ, List.getElem?_cons_zero, List.filterMap_cons, List.filterMap_nil, Option.map_some]
  repeat ((first | refine flow_calm (fun K hK => ?_) | refine flow_free (fun K hK => ?_) | refine float_calm (fun K hK => ?_) | refine float_free (fun K hK => ?_)); go_simp; first | (refine hK _ ?_; clear hK K) | (apply Exists.intro; (refine ⟨fun X => ?_, hK _ ?_⟩); (first | (intro hC; rfl) | rfl | (intro hC; have q := HW4.out.db.box.later hC.out; have q0 := q.cell 0 _ rfl; have q1 := q.cell 1 _ rfl; go_simp; done) | (intro hC; have q := HW4.out.db.box.later hC.out; have q0 := q.cell 0 _ rfl; have q1 := q.cell 1 _ rfl; go_simp; rfl) | (intro hC; (with_reducible refine (ref_open d _ _ cf cl _ Hoo.out.ne (Hda.out.later (below_step HB4.out hC.out))).mono ?_); rintro e w' ⟨rfl, hb⟩; exact ⟨rfl, hb⟩) | (intro hC; (with_reducible refine (ref_file d _ _ cf cl (openNo d) _ (Hda.out.later (below_step HB4.out hC.out))).mono ?_); rintro e w' ⟨rfl, hb⟩; rw [Hpl.out]; exact ⟨rfl, hb⟩)); clear hK K))
  refine flow_nil ?_
  intro X hX
  have hbX := below_step HB4.out hX.out
  have hW5 := HW4.out.later hX.out hh
  have HW5 := Lib.hid hW5
  clear hX HW4 HB4
  have q0 := hW5.db.box.cell 0 _ rfl
  have p0 := hW5.step.cell 0 _ rfl
  have x0 : X.cell? ⟨g, m * 3, none⟩ = _ := cell_keep hbX L0.out
  have hwr := Hwr.out
  go_upto_region 10 with fail
  clear x0 hwr q0
  by_cases h16 : 16 ≤ (fileAt d (openAt d)).recs.length
  · have hw := Lib.hid (show writeD d (openAt d) n = (d, false) by rw [writeD, if_pos (.inl h16)])
    have h16b : decide ((16 : Int) ≤ (fileAt d (openAt d)).recs.length) = true := by simp; omega
    clear hW5
    go_wp2
    refine wp_region_flow [.free 0, .free 1, .free 2, .calm 3, .free 4, .free 5, .free 6, .free 7, .free 8, .free 9, .free 10, .free 11, .free 12, .free 13, .free 14, .free 15] (Below X.heap.size X) (Below X.heap.size X) (stable_below _ _ (Nat.le_refl _)) (fun _ h => h) (by kernel_rfl) (by kernel_rfl) (below_drew1 (Below.refl _ _)) ?_
    simp only [pickEnts, pickF, List.getElem?_cons_succ, List.getElem?_cons_zero, List.filterMap_cons, List.filterMap_nil, Option.map_some]
    repeat ((first | refine flow_calm (fun K hK => ?_) | refine flow_free (fun K hK => ?_) | refine float_calm (fun K hK => ?_) | refine float_free (fun K hK => ?_)); go_simp; first | (refine hK _ ?_; clear hK K) | (apply Exists.intro; (refine ⟨fun X => ?_, hK _ ?_⟩); (first | (intro hC; rfl) | rfl | (intro hC; have q1 : X.cell? ⟨g, openAt d * 3 + 1, none⟩ = _ := cell_keep (below_step hbX hC.out) G1.out; go_simp; done) | (intro hC; have q1 : X.cell? ⟨g, openAt d * 3 + 1, none⟩ = _ := cell_keep (below_step hbX hC.out) G1.out; go_simp; rfl)); clear hK K))
    refine flow_nil ?_
    intro Y hY
    have HW6 := Lib.hid (HW5.out.later hY.out hh)
    clear hY HW5
    have q0 := HW6.out.db.box.cell 0 _ rfl
    have q1 := HW6.out.db.box.cell 1 _ rfl
    have z0 := HW6.out.two.cell 0 _ rfl
    have z1 := HW6.out.two.cell 1 _ rfl
    have zf := HW6.out.two.frozen
    go_wp2
    have hv := (HW6.out.db.val.set HW6.out.two RowTy.disk 0 (.slice (some ⟨g, 0, none⟩) d.files.length cf)).set (HW6.out.two.setAt 0 (.slice (some ⟨g, 0, none⟩) d.files.length cf)) RowTy.disk 1 (.slice Al d.list.length cl)
    have y2 := (HW6.out.two.setAt 0 (.slice (some ⟨g, 0, none⟩) d.files.length cf)).setAt 1 (.slice Al d.list.length cl)
    have y0 := y2.cell 0 _ rfl
    have y1 := y2.cell 1 _ rfl
    have hkk := (HW6.out.kp.setFresh (p := ⟨w.heap.size + 1 + 1, 0, none⟩) (by simp only; omega) hh (.slice (some ⟨g, 0, none⟩) d.files.length cf)).setFresh (p := ⟨w.heap.size + 1 + 1, 1, none⟩) (by simp only; omega) hh (.slice Al d.list.length cl)
    refine bodyPost_ret (v := .tuple #[.agg #[(.slice (some ⟨g, 0, none⟩) d.files.length cf), (.slice Al d.list.length cl)], .bool false]) (by simp [results, Try.results75, go_sem, y0, y1]) rfl ?_
    rw [hw.out]
    exact ⟨_, _, _, rfl, hv, hkk⟩
  · replace h16 : (fileAt d (openAt d)).recs.length < 16 := by omega
    obtain ⟨fb, hfb⟩ : ∃ fb, formedB (thereOf d ++ [n]) 4 = fb := ⟨_, rfl⟩
    have hw := Lib.hid (show writeD d (openAt d) n = if fb = false then (d, false) else (putRecs d (openAt d) ((fileAt d (openAt d)).recs ++ [recOf n]), true) by rw [writeD, hfb]; simp only [Nat.not_le.2 h16, false_or])
    have h16b : decide ((16 : Int) ≤ (fileAt d (openAt d)).recs.length) = false := by simp only [decide_eq_false_iff_not]; omega
    have hthl := Hr.out.there
    have hpl : ∀ no ∈ d.list, (placeI no d.files 0).isSome = true := Hr.out.placed
    clear hW5
    go_wp2
    refine wp_region_flow [.free 0, .free 1, .free 2, .calm 3, .free 4, .free 5, .free 6, .calm 7, .free 9, .calm 10, .group [8, 11], .fence 12, .calm 13, .free 14, .free 15] (Below X.heap.size X) (Below X.heap.size X) (stable_below _ _ (Nat.le_refl _)) (fun _ h => h) (by kernel_rfl) (by kernel_rfl) (below_drew1 (Below.refl _ _)) ?_
    simp only [pickEnts, pickF, List.getElem?_cons_succ, List.getElem?_cons_zero, List.filterMap_cons, List.filterMap_nil, Option.map_some]
    repeat ((first | refine flow_calm (fun K hK => ?_) | refine flow_free (fun K hK => ?_) | refine float_calm (fun K hK => ?_) | refine float_free (fun K hK => ?_)); go_simp; first | (refine hK _ ?_; clear hK K) | (apply Exists.intro; (refine ⟨fun X => ?_, hK _ ?_⟩); (first | (intro hC; rfl) | rfl | (intro hC; have q1 : X.cell? ⟨g, openAt d * 3 + 1, none⟩ = _ := cell_keep (below_step hbX hC.out) G1.out; have hq := HW5.out.later hC.out hh; have b0 := hq.db.box.cell 0 _ rfl; have b1 := hq.db.box.cell 1 _ rfl; have c4 := hq.step.cell 4 _ rfl; have c5 := hq.step.cell 5 _ rfl; have c6 := hq.step.cell 6 _ rfl; have c7 := hq.step.cell 7 _ rfl; have c8 := hq.step.cell 8 _ rfl; have c9 := hq.step.cell 9 _ rfl; have c10 := hq.step.cell 10 _ rfl; go_simp; done) | (intro hC; have q1 : X.cell? ⟨g, openAt d * 3 + 1, none⟩ = _ := cell_keep (below_step hbX hC.out) G1.out; have hq := HW5.out.later hC.out hh; have b0 := hq.db.box.cell 0 _ rfl; have b1 := hq.db.box.cell 1 _ rfl; have c4 := hq.step.cell 4 _ rfl; have c5 := hq.step.cell 5 _ rfl; have c6 := hq.step.cell 6 _ rfl; have c7 := hq.step.cell 7 _ rfl; have c8 := hq.step.cell 8 _ rfl; have c9 := hq.step.cell 9 _ rfl; have c10 := hq.step.cell 10 _ rfl; go_simp; rfl)); clear hK K))
    refine flow_two (fun v Y => Own kNews 26 Y X.heap.size v (thereOf d)) (fun v Y => ∃ B, v = .slice (some ⟨B, 0, none⟩) 1 1 ∧ Cells Y B #[.int .i64 n.do_, .int .i64 n.src, .int .i64 n.id, .int .i64 n.ver, .int .i64 n.body.at_, .int .i64 n.body.key, .int .i64 n.body.val] 26) (fun _ _ _ h hb => Kd.R_below h hb) (fun _ _ _ h hb => by obtain ⟨B, h1, h2⟩ := h; exact ⟨B, h1, h2.later hb⟩) (by decide) ⟨rfl, fun Y hY => ?_⟩ ⟨rfl, fun Y hY => ?_⟩ (fun v u X0 hX0 hV0 hU0 => ?_)
    · go_simp
      refine ⟨Below.refl _ _, (ref_NewsOf d _ _ cf cl Y (Hda.out.later (below_step hbX hY.out)) hpl (by omega)).mono ?_⟩
      rintro e w' ⟨v, rfl, h1, h2⟩
      exact ⟨v, rfl, h2, Kd.R_lower h1 hY.out.size⟩
    · go_simp
      exact ⟨below_alloc (Below.refl _ _) _, Cells.new _ _ _⟩
    obtain ⟨A3, n3, c3, rfl⟩ := R_slice' hV0
    obtain ⟨B, rfl, -⟩ := hU0
    clear hX0 hV0
    refine flow_fence rfl (fun Y hY K hK => ?_)
    obtain ⟨hb, hown, B', hB', hcB⟩ := hY.out
    cases hB'
    refine Kd.R_append_rows_step kNews (w0 := Y) X.heap.size (by rfl) (.tmp 61) (.tmp 64) 34 26 (.agg #[.int .i64 0, .int .i64 0, .int .i64 0, .int .i64 0, .int .i64 0, .int .i64 0, .int .i64 0]) 56 rfl (by kernel_rfl) (by kernel_rfl) rfl (by decide) (by omega) _ (thereOf d) [n] _ _ _ (fun _ => True) (fun _ => False) rfl rfl hown (lit_row kNews Y B n [.int .i64 n.do_, .int .i64 n.src, .int .i64 n.id, .int .i64 n.ver, .int .i64 n.body.at_, .int .i64 n.body.key, .int .i64 n.body.val] 26 hcB (kNews_mk _ _)) (fun x cs h => by obtain rfl := kNews_open h; exact kNews_mkM _ _ _ x) (fun _ h => h.elim) (fun _ _ => trivial) (Below.refl _ _) hb.size (by omega) ?_
    intro v1 w1 r1 r2 r3 r4
    generalize hL : thereOf d ++ [n] = L at r1
    obtain ⟨A4, c4, rfl, hc4, hrow4⟩ := own_reads' r1
    refine hK.out _ _ (fun Z => Below X.heap.size X Z ∧ NewsRow Z A4 L.length L) (fun Z => Below X.heap.size X Z ∧ NewsRow Z A4 L.length L) (fun Z Z' hZ hb => ⟨below_step hZ.1 hb, Kd.C_below hZ.2 hb⟩) (fun _ h => h) ⟨hb.trans r2, hrow4⟩ ?_
    clear hK K r1 r2 r3 r4 hrow4 hcB hown hb hY
    have Hfb := Lib.hid (hL ▸ hfb : formedB L 4 = fb)
    clear hL hfb
    repeat ((first | refine flow_calm (fun K hK => ?_) | refine flow_free (fun K hK => ?_) | refine float_calm (fun K hK => ?_) | refine float_free (fun K hK => ?_)); go_simp; first | (refine hK _ ?_; clear hK K) | (apply Exists.intro; (refine ⟨fun X => ?_, hK _ ?_⟩); (first | (intro hC; rfl) | rfl | (intro hC; skip; go_simp; done) | (intro hC; skip; go_simp; rfl) | (intro hC; (with_reducible refine (ref_Formed L A4 c4 4 X hC.out.2 hc4).mono ?_); rintro e w' ⟨rfl, hb⟩; rw [Hfb.out]; exact ⟨rfl, hb⟩)); clear hK K))
    refine flow_nil ?_
    intro Y hY
    have hbY := hY.out.1
    have HW6 := Lib.hid (HW5.out.later hbY hh)
    clear hY HW5
    cases fb
    · have q0 := HW6.out.db.box.cell 0 _ rfl
      have q1 := HW6.out.db.box.cell 1 _ rfl
      have z0 := HW6.out.two.cell 0 _ rfl
      have z1 := HW6.out.two.cell 1 _ rfl
      have zf := HW6.out.two.frozen
      go_wp2
      have hv := (HW6.out.db.val.set HW6.out.two RowTy.disk 0 (.slice (some ⟨g, 0, none⟩) d.files.length cf)).set (HW6.out.two.setAt 0 (.slice (some ⟨g, 0, none⟩) d.files.length cf)) RowTy.disk 1 (.slice Al d.list.length cl)
      have y2 := (HW6.out.two.setAt 0 (.slice (some ⟨g, 0, none⟩) d.files.length cf)).setAt 1 (.slice Al d.list.length cl)
      have y0 := y2.cell 0 _ rfl
      have y1 := y2.cell 1 _ rfl
      have hkk := (HW6.out.kp.setFresh (p := ⟨w.heap.size + 1 + 1, 0, none⟩) (by simp only; omega) hh (.slice (some ⟨g, 0, none⟩) d.files.length cf)).setFresh (p := ⟨w.heap.size + 1 + 1, 1, none⟩) (by simp only; omega) hh (.slice Al d.list.length cl)
      refine bodyPost_ret (v := .tuple #[.agg #[(.slice (some ⟨g, 0, none⟩) d.files.length cf), (.slice Al d.list.length cl)], .bool false]) (by simp [results, Try.results75, go_sem, y0, y1]) rfl ?_
      rw [hw.out]
      exact ⟨_, _, _, rfl, hv, hkk⟩
    · go_wp2
      have G1Y := Lib.hid (show Y.cell? ⟨g, openAt d * 3 + 1, none⟩ = _ from cell_keep (below_step hbX hbY) G1.out)
      refine wp_region_flow [.free 0, .free 1, .free 2, .free 3, .calm 4, .free 5, .calm 6, .free 7, .calm 8, .calm 9, .free 10, .group [11], .fence 12, .free 13, .free 14, .fence 15] (Below Y.heap.size Y) (Below Y.heap.size Y) (stable_below _ _ (Nat.le_refl _)) (fun _ h => h) (by kernel_rfl) (by kernel_rfl) (below_drew1 (Below.refl _ _)) ?_
      simp only [pickEnts, pickF, List.getElem?_cons_succ, List.getElem?_cons_zero, List.filterMap_cons, List.filterMap_nil, Option.map_some]
      repeat ((first | refine flow_calm (fun K hK => ?_) | refine flow_free (fun K hK => ?_) | refine float_calm (fun K hK => ?_) | refine float_free (fun K hK => ?_)); go_simp; first | (refine hK _ ?_; clear hK K) | (apply Exists.intro; (refine ⟨fun X => ?_, hK _ ?_⟩); (first | (intro hC; rfl) | rfl | (intro hC; have q1 : X.cell? ⟨g, openAt d * 3 + 1, none⟩ = _ := cell_keep hC.out G1Y.out; have hq := HW6.out.later hC.out hh; have c4 := hq.step.cell 4 _ rfl; have c5 := hq.step.cell 5 _ rfl; have c6 := hq.step.cell 6 _ rfl; have c7 := hq.step.cell 7 _ rfl; have c8 := hq.step.cell 8 _ rfl; have c9 := hq.step.cell 9 _ rfl; have c10 := hq.step.cell 10 _ rfl; go_simp; done) | (intro hC; have q1 : X.cell? ⟨g, openAt d * 3 + 1, none⟩ = _ := cell_keep hC.out G1Y.out; have hq := HW6.out.later hC.out hh; have c4 := hq.step.cell 4 _ rfl; have c5 := hq.step.cell 5 _ rfl; have c6 := hq.step.cell 6 _ rfl; have c7 := hq.step.cell 7 _ rfl; have c8 := hq.step.cell 8 _ rfl; have c9 := hq.step.cell 9 _ rfl; have c10 := hq.step.cell 10 _ rfl; go_simp; rfl) | (intro hC; (with_reducible refine (ref_Sum n _).mono ?_); rintro e w' ⟨rfl, hb⟩; exact ⟨rfl, hb⟩)); clear hK K))
      refine flow_one (fun v Z => ∃ B, v = .slice (some ⟨B, 0, none⟩) 1 1 ∧ Cells Z B #[.int .i64 n.do_, .int .i64 n.src, .int .i64 n.id, .int .i64 n.ver, .int .i64 n.body.at_, .int .i64 n.body.key, .int .i64 n.body.val, .int .i64 (segSum n)] 83) (fun _ _ _ h hb => by obtain ⟨B, h1, h2⟩ := h; exact ⟨B, h1, h2.later hb⟩) ⟨rfl, fun Z hZ => ?_⟩ (fun v X0 hX0 hV0 => ?_)
      · go_simp
        exact ⟨below_alloc (Below.refl _ _) _, Cells.new _ _ _⟩
      obtain ⟨B5, rfl, -⟩ := hV0
      clear hX0
      refine flow_fence rfl (fun Z hZ K hK => ?_)
      obtain ⟨hb5, B', hB', hcB⟩ := hZ.out
      cases hB'
      have hW7 := HW6.out.later hb5 hh
      have hown := (hW7.db.rows.rel (openAt d) _ _ Hrr.out Hf.out).2.2
      refine Kd.R_append_rows_step kSRec (w0 := Z) h0 (by rfl) (.tmp 74) (.tmp 81) 60 83 (.agg #[.int .i64 0, .int .i64 0, .int .i64 0, .int .i64 0, .int .i64 0, .int .i64 0, .int .i64 0, .int .i64 0]) 64 rfl (by kernel_rfl) (by kernel_rfl) rfl (by decide) (by omega) (.slice rA (fileAt d (openAt d)).recs.length rc) (fileAt d (openAt d)).recs [recOf n] _ _ _ (fun _ => True) (fun _ => False) rfl rfl hown (lit_row kSRec Z B5 (recOf n) [.int .i64 n.do_, .int .i64 n.src, .int .i64 n.id, .int .i64 n.ver, .int .i64 n.body.at_, .int .i64 n.body.key, .int .i64 n.body.val, .int .i64 (segSum n)] 83 hcB (kSRec_mk _ _)) (fun x cs h => by obtain rfl := kSRec_open h; exact kSRec_mkM _ _ _ x) (fun _ h => h.elim) (fun _ _ => trivial) (Below.refl _ _) (hW7.size hh) (by omega) ?_
      intro v1 w1 r1 r2 r3 r4
      obtain ⟨A5, n5, c5, rfl⟩ := R_slice' r1
      have htr : ∀ b cs t, Cells Z b cs t → t ≠ 83 → some b ≠ (Value.slice rA (fileAt d (openAt d)).recs.length rc).ownBlock := fun b cs t hc hne e => by
        obtain ⟨_, cs', hc'⟩ := own_ty hown e.symm
        exact hne (cells_ty hc hc')
      have hG : RGrew h0 w.heap.size (.slice (some ⟨g, 0, none⟩) d.files.length cf) (.slice Al d.list.length cl) rs d ⟨(fileAt d (openAt d)).no, rA, (fileAt d (openAt d)).recs.length, rc, (fileAt d (openAt d)).safe⟩ (.slice A5 n5 c5) ((fileAt d (openAt d)).recs ++ [recOf n]) w1 := ⟨Z, hW7.db, r3, r1, by
        rcases r4 with r4 | ⟨b, hb, hle⟩
        · exact .inl r4
        · exact .inr fun k hk => by rw [hb] at hk; cases hk; exact hle⟩
      have hkp1 : Kp h0 w w1 := hW7.kp.grown r2 r3 (fun k hk => by obtain ⟨_, cs, hc⟩ := own_ty hown hk; exact ⟨cs, _, hc, .inr (.inr (.inl rfl))⟩)
      refine hK.out _ _ (fun V => RGrew h0 w.heap.size (.slice (some ⟨g, 0, none⟩) d.files.length cf) (.slice Al d.list.length cl) rs d ⟨(fileAt d (openAt d)).no, rA, (fileAt d (openAt d)).recs.length, rc, (fileAt d (openAt d)).safe⟩ (.slice A5 n5 c5) ((fileAt d (openAt d)).recs ++ [recOf n]) V ∧ Cells V (w.heap.size + 1) #[.int .i64 1, .int .i64 k, .int .i64 stop, .bool torn, .int .i64 n.do_, .int .i64 n.src, .int .i64 n.id, .int .i64 n.ver, .int .i64 n.body.at_, .int .i64 n.body.key, .int .i64 n.body.val] 58 ∧ Cells V (w.heap.size + 1 + 1) #[.slice none 0 0, .slice none 0 0] 33 ∧ Kp h0 w V) (fun V => RGrew h0 w.heap.size (.slice (some ⟨g, 0, none⟩) d.files.length cf) (.slice Al d.list.length cl) rs d ⟨(fileAt d (openAt d)).no, rA, (fileAt d (openAt d)).recs.length, rc, (fileAt d (openAt d)).safe⟩ (.slice A5 n5 c5) ((fileAt d (openAt d)).recs ++ [recOf n]) V ∧ Cells V (w.heap.size + 1) #[.int .i64 1, .int .i64 k, .int .i64 stop, .bool torn, .int .i64 n.do_, .int .i64 n.src, .int .i64 n.id, .int .i64 n.ver, .int .i64 n.body.at_, .int .i64 n.body.key, .int .i64 n.body.val] 58 ∧ Cells V (w.heap.size + 1 + 1) #[.slice none 0 0, .slice none 0 0] 33 ∧ Kp h0 w V) (fun V V' hV hb => ⟨hV.1.later hb, hV.2.1.later hb, hV.2.2.1.later hb, hV.2.2.2.later hb (Nat.le_trans hh hV.2.2.2.size)⟩) (fun _ h => h) ⟨hG, hW7.step.kept r3 (htr _ _ _ hW7.step (by decide)), hW7.two.kept r3 (htr _ _ _ hW7.two (by decide)), hkp1⟩ ?_
      clear hK K hZ hb5 hcB hW7 hown r1 r2 r3 r4 htr hG hkp1
      repeat ((first | refine flow_calm (fun K hK => ?_) | refine flow_free (fun K hK => ?_) | refine float_calm (fun K hK => ?_) | refine float_free (fun K hK => ?_)); go_simp; first | (refine hK _ ?_; clear hK K) | (apply Exists.intro; (refine ⟨fun X => ?_, hK _ ?_⟩); (first | (intro hC; rfl) | rfl | (intro hC; skip; go_simp; done) | (intro hC; skip; go_simp; rfl)); clear hK K))
      refine flow_fence rfl (fun V hV K hK => ?_)
      obtain ⟨hG, hS, hT, hkp⟩ := hV.out
      obtain ⟨c0, c1, c2, cff⟩ := hG.cells Hrr.out
      have cff1 := cff (openAt d * 3 + 1)
      have hmF := hG.mineF Hrr.out
      have hgne : ∀ b cs t, Cells V b cs t → ¬ Mine t → b ≠ g := fun b cs t hc hn e => by
        obtain ⟨cs', t', hc', hm'⟩ := hmF
        subst e
        exact hn (cells_ty hc' hc ▸ hm')
      clear c0 c2 cff
      go_simp
      have hW8 : MWork h0 w w.heap.size (w.heap.size + 1) (w.heap.size + 1 + 1) #[.int .i64 1, .int .i64 k, .int .i64 stop, .bool torn, .int .i64 n.do_, .int .i64 n.src, .int .i64 n.id, .int .i64 n.ver, .int .i64 n.body.at_, .int .i64 n.body.key, .int .i64 n.body.val] (.slice (some ⟨g, 0, none⟩) d.files.length cf) (.slice Al d.list.length cl) (rs.set (openAt d) ⟨(fileAt d (openAt d)).no, A5, n5, c5, (fileAt d (openAt d)).safe⟩) (putRecs d (openAt d) ((fileAt d (openAt d)).recs ++ [recOf n])) (V.setCell ⟨g, openAt d * 3 + 1, none⟩ (.slice A5 n5 c5)) := ⟨hG.put Hrr.out Hf.out, hS.other (p := ⟨g, openAt d * 3 + 1, none⟩) (hgne _ _ _ hS not_mine_step) _, hT.other (p := ⟨g, openAt d * 3 + 1, none⟩) (hgne _ _ _ hT not_mine_disk) _, hkp.setCell (p := ⟨g, openAt d * 3 + 1, none⟩) hg0 hmF _⟩
      refine hK.out _ _ (MWork h0 w w.heap.size (w.heap.size + 1) (w.heap.size + 1 + 1) #[.int .i64 1, .int .i64 k, .int .i64 stop, .bool torn, .int .i64 n.do_, .int .i64 n.src, .int .i64 n.id, .int .i64 n.ver, .int .i64 n.body.at_, .int .i64 n.body.key, .int .i64 n.body.val] (.slice (some ⟨g, 0, none⟩) d.files.length cf) (.slice Al d.list.length cl) (rs.set (openAt d) ⟨(fileAt d (openAt d)).no, A5, n5, c5, (fileAt d (openAt d)).safe⟩) (putRecs d (openAt d) ((fileAt d (openAt d)).recs ++ [recOf n]))) (MWork h0 w w.heap.size (w.heap.size + 1) (w.heap.size + 1 + 1) #[.int .i64 1, .int .i64 k, .int .i64 stop, .bool torn, .int .i64 n.do_, .int .i64 n.src, .int .i64 n.id, .int .i64 n.ver, .int .i64 n.body.at_, .int .i64 n.body.key, .int .i64 n.body.val] (.slice (some ⟨g, 0, none⟩) d.files.length cf) (.slice Al d.list.length cl) (rs.set (openAt d) ⟨(fileAt d (openAt d)).no, A5, n5, c5, (fileAt d (openAt d)).safe⟩) (putRecs d (openAt d) ((fileAt d (openAt d)).recs ++ [recOf n]))) (fun V V' hV hb => hV.later hb hh) (fun _ h => h) hW8 ?_
      clear hK K hV hG hS hT hkp c1 cff1 hmF hgne hW8 HW6
      refine flow_nil ?_
      intro w9 hX
      have HW9 := Lib.hid hX.out
      clear hX
      have b0 := HW9.out.db.box.cell 0 _ rfl
      have b1 := HW9.out.db.box.cell 1 _ rfl
      have z0 := HW9.out.two.cell 0 _ rfl
      have z1 := HW9.out.two.cell 1 _ rfl
      have zf := HW9.out.two.frozen
      go_wp2
      have hv := (HW9.out.db.val.set HW9.out.two RowTy.disk 0 (.slice (some ⟨g, 0, none⟩) d.files.length cf)).set (HW9.out.two.setAt 0 (.slice (some ⟨g, 0, none⟩) d.files.length cf)) RowTy.disk 1 (.slice Al d.list.length cl)
      have y2 := (HW9.out.two.setAt 0 (.slice (some ⟨g, 0, none⟩) d.files.length cf)).setAt 1 (.slice Al d.list.length cl)
      have y0 := y2.cell 0 _ rfl
      have y1 := y2.cell 1 _ rfl
      have hkk := (HW9.out.kp.setFresh (p := ⟨w.heap.size + 1 + 1, 0, none⟩) (by simp only; omega) hh (.slice (some ⟨g, 0, none⟩) d.files.length cf)).setFresh (p := ⟨w.heap.size + 1 + 1, 1, none⟩) (by simp only; omega) hh (.slice Al d.list.length cl)
      refine bodyPost_ret (v := .tuple #[.agg #[(.slice (some ⟨g, 0, none⟩) d.files.length cf), (.slice Al d.list.length cl)], .bool true]) (by simp [results, Try.results75, go_sem, y0, y1]) rfl ?_
      rw [hw.out]
      exact ⟨_, _, _, rfl, hv, hkk⟩
end Go.Proofs.Ytfmojgdomficlaa
