/-
  Texts of one hand, laid together: LawSegSafe.
-/
import Derived.Test.YtfmojgdomficlaaZO
import Derived.Test.YtfmojgdomficlaaZM
import Derived.Test.YtfmojgdomficlaaZL
import Derived.Test.YtfmojgdomficlaaZK
import Derived.Test.YtfmojgdomficlaaRows
import Derived.ProofKit
import Derived.OpenShut
import Derived.ShutString
import Derived.ChangeOld
import Derived.SizedLaws
set_option linter.unusedVariables false
set_option linter.unusedSimpArgs false
/-! For all steps from a device that begins: what is there says the same as what was written, but for what crashes took; nothing safe is taken. -/
namespace Go.Proofs.Ytfmojgdomficlaa
open Go.RowKit Go.Shelf Go.Proofs.YtfmojgdomficlaaW.PrintWords

def crashesOf (s : SStep) : Int := if s.do_ = 5 then 1 else 0
set_option maxRecDepth 100000 in
set_option maxHeartbeats 2000000 in
theorem law_crashes (s : SStep) (w : World) : Calls Try.prog 36 #[.agg #[.int .i64 s.do_, .int .i64 s.k, .int .i64 s.stop, .bool s.torn, .int .i64 s.news.do_, .int .i64 s.news.src, .int .i64 s.news.id, .int .i64 s.news.ver, .int .i64 s.news.body.at_, .int .i64 s.news.body.key, .int .i64 s.news.body.val]] w fun e w' => e = .returned (.int .i64 (crashesOf s)) ∧ Below w.heap.size w w' := by
  by_cases h : s.do_ = 5
  · have h1 : (s.do_ == 5) = true := beq_iff_eq.2 h
    have h2 : crashesOf s = 1 := if_pos h
    rw [h2]
    clear h h2
    go_enter Try.func36, Try.ntmps36
    go_wp2
    go_ret
    exact ⟨rfl, (by repeat (first | exact Below.refl _ _ | assumption | apply below_alloc | apply below_drew1 | apply pw_below_drewN | refine below_step ?_ (by assumption)))⟩
  · have h1 : (s.do_ == 5) = false := beq_eq_false_iff_ne.2 h
    have h2 : crashesOf s = 0 := if_neg h
    rw [h2]
    clear h h2
    go_enter Try.func36, Try.ntmps36
    go_wp2
    go_ret
    exact ⟨rfl, (by repeat (first | exact Below.refl _ _ | assumption | apply below_alloc | apply below_drew1 | apply pw_below_drewN | refine below_step ?_ (by assumption)))⟩
theorem seg_Play_n (d : SDisk) (l : List SStep) (n : Nat) (hn : n = l.length) (Af Al A : Option Addr) (cf cl c : Nat) (w : World) (hd : DRows w Af cf Al cl d) (hF : Fits d) (hl : StepsRow w A n l) (hc : n ≤ c) (hk : ∀ s ∈ l, s.k ≤ 9223372036854775807) :
    Calls Try.prog 25 #[.agg #[.slice Af d.files.length cf, .slice Al d.list.length cl], .slice A n c] w (PlayEnds d l w) := by
  subst hn
  exact seg_Play d l Af Al A cf cl c w hd hF hl hc hk
theorem steps_of_snoc {w : World} {base n c : Nat} {A : Option Addr} {l : List SStep} {x : SStep} (h : Own kStep 58 w base (.slice A n c) (l ++ [x])) : n = l.length + 1 ∧ l.length + 1 ≤ c ∧ StepsRow w A (l.length + 1) (l ++ [x]) := by
  obtain ⟨e1, h1, h2⟩ := steps_of_own h
  have hl : (l ++ [x]).length = l.length + 1 := by simp
  rw [hl] at e1 h1 h2
  exact ⟨e1, h1, h2⟩
theorem steps_k {l : List SStep} (hi : ∀ s ∈ l, StepI s) : ∀ s ∈ l ++ [doS 6], s.k ≤ 9223372036854775807 := fun s hs => by
  rcases List.mem_append.1 hs with h | h
  · exact (hi s h).2.1.2
  · rw [List.mem_singleton.1 h]; decide
set_option maxRecDepth 100000 in
set_option maxHeartbeats 8000000 in
theorem safe_err (l : List SStep) (A : Option Addr) (c : Nat) (w : World) (hr : StepsRow w A l.length l) (hc : l.length ≤ c) (hz : l.length * 88 ≤ 140737488351232) (hi : ∀ s ∈ l, StepI s) (k : Int) (hk : k = 2 ∨ k = 3) (hp : playOf beginD (l ++ [doS 6]) = ((⟨[], []⟩, []), k)) :
    Calls Try.prog 9 #[.slice A l.length c] w fun e w' => e = .returned (.bool true) ∧ Below w.heap.size w w' := by
  have Hr := Lib.hid hr
  have Hp := Lib.hid hp
  have HK := Lib.hid (steps_k hi)
  clear hr hp hi
  rcases hk with rfl | rfl
  all_goals
    go_enter Try.func9, Try.ntmps9
    go_upto_region 2 with (first
    | (go_at_call 22; (with_reducible refine (seg_BeginK _).mono ?_); rintro e wb ⟨Afb, cfb, Alb, clb, rfl, hkb, hbb⟩)
    | (go_at_call 35; (with_reducible refine (clone_steps l A c _ (Kd.C_below Hr.out hbb) hz).mono ?_); rintro e wc ⟨vc, rfl, HO, HOB⟩)
    | (go_at_call 30; (with_reducible refine (law_do _ _).mono ?_); rintro e wd ⟨rfl, hb2⟩; have HOB := below_step HOB hb2; have HO := Kd.R_below HO hb2; clear hb2)
    | (at_builtin; refine Kd.R_append_rows kStep (w0 := wb) wb.heap.size rfl _ _ 45 58 (.agg #[.int .i64 0, .int .i64 0, .int .i64 0, .bool false, .int .i64 0, .int .i64 0, .int .i64 0, .int .i64 0, .int .i64 0, .int .i64 0, .int .i64 0]) 88 rfl (by kernel_rfl) (by kernel_rfl) rfl (by decide) (by omega) _ l [doS 6] _ 1 1 (fun _ => True) (fun _ => False) rfl rfl (Kd.R_below HO (below_alloc (Below.refl _ _) _)) (lit_steps _ [doS 6] (by simp) 1 rfl _ (by rfl)) (fun x cs h => step_KM _ _ x cs h) (fun _ h => h.elim) (fun _ _ => trivial) (below_alloc HOB _) (by have := HOB.size; rw [World.size_alloc]; omega) (by omega) ?_; intro v1 wa r1 r2 r3 r4; obtain ⟨A1, n1, c1, rfl⟩ := R_slice' r1; obtain ⟨rfl, hc1, hl1⟩ := steps_of_snoc r1; have hda := hkb wa none (below_grown r2 _) (fun _ e => by cases e))
    | (go_at_call 25; (with_reducible refine (seg_Play_n beginD (l ++ [doS 6]) (l.length + 1) ?_ _ _ _ _ _ _ _ hda fits_begin hl1 hc1 HK.out).mono ?_); simp; rintro e wp ⟨Af2, cf2, Al2, cl2, Ab2, cb2, rfl, hd2, hd3, hd4, hbp⟩; simp only [Hp.out] at hd2 hd3 hd4 ⊢))
    go_wp2_with (first
      | (go_at_call 13; (with_reducible refine (law_known _).mono ?_); rintro e wk ⟨rfl, hbk⟩))
    go_ret
    exact ⟨rfl, below_step (below_alloc (below_step (below_step hbb r2) hbp) _) hbk⟩
theorem fits_do {s : SStep} (hf : fitsB s = true) : s.do_ = 1 ∨ s.do_ = 2 ∨ s.do_ = 3 ∨ s.do_ = 4 ∨ s.do_ = 5 ∨ s.do_ = 6 := by
  unfold fitsB at hf
  split at hf
  · cases hf
  split at hf
  · omega
  split at hf
  · omega
  · have := of_decide_eq_true hf; omega
theorem fits_stop {s : SStep} (hf : fitsB s = true) : 0 ≤ s.stop ∧ s.stop ≤ 2 := by
  unfold fitsB at hf
  split at hf
  · cases hf
  rename_i ho
  unfold oddB at ho
  omega
/-- What a crash leaves, counted. -/
def leftN (p : List News × Nat) (k c : Int) : Nat := p.2 + min (k * c).toNat (p.1.length - p.2)
theorem allStep_crash (p : List News × Nat) (s : SStep) (h : s.do_ = 5 ∨ (s.do_ = 4 ∧ 0 < s.stop)) : allStep p s true = (p.1.take (leftN p s.k (crashesOf s)), leftN p s.k (crashesOf s)) := by
  unfold allStep
  rw [if_neg (by simp), if_neg (by omega), if_neg (by omega), if_pos h]
  rfl
theorem crash_nums (all : List News) (sfn : Nat) (kk cc : Int) (hle : sfn ≤ all.length) (hlen : all.length ≤ 150) (hk0 : 0 ≤ kk) (hkm : kk ≤ 9223372036854775807) (hcc : cc = 0 ∨ cc = 1) :
    ∃ (M : Int) (T : Nat), IntKind.i64.wrap (kk * cc) = kk * cc ∧ IntKind.i64.wrap ((all.length : Int) - sfn) = (all.length : Int) - sfn ∧ (if (all.length : Int) - sfn < kk * cc then (all.length : Int) - sfn else kk * cc) = M ∧ IntKind.i64.wrap ((sfn : Int) + M) = (T : Int) ∧ T ≤ all.length ∧ leftN (all, sfn) kk cc = T := by
  have e2 : IntKind.i64.wrap ((all.length : Int) - sfn) = (all.length : Int) - sfn := IntWalk.i64_in _ (by omega)
  have key : ∀ P : Int, 0 ≤ P → P ≤ 9223372036854775807 → ∃ (M : Int) (T : Nat), IntKind.i64.wrap P = P ∧ IntKind.i64.wrap ((all.length : Int) - sfn) = (all.length : Int) - sfn ∧ (if (all.length : Int) - sfn < P then (all.length : Int) - sfn else P) = M ∧ IntKind.i64.wrap ((sfn : Int) + M) = (T : Int) ∧ T ≤ all.length ∧ sfn + min P.toNat (all.length - sfn) = T := by
    intro P h0 h1
    refine ⟨_, _, IntWalk.i64_in _ (by omega), e2, rfl, ?_, ?_, rfl⟩
    · rw [IntWalk.i64_in _ (by split <;> omega)]
      split <;> omega
    · omega
  rcases hcc with rfl | rfl
  · rw [Int.mul_zero]
    obtain ⟨M, T, h⟩ := key 0 (by omega) (by omega)
    exact ⟨M, T, h.1, h.2.1, h.2.2.1, h.2.2.2.1, h.2.2.2.2.1, by rw [leftN, Int.mul_zero]; exact h.2.2.2.2.2⟩
  · rw [Int.mul_one]
    obtain ⟨M, T, h⟩ := key kk hk0 hkm
    exact ⟨M, T, h.1, h.2.1, h.2.2.1, h.2.2.2.1, h.2.2.2.2.1, by rw [leftN, Int.mul_one]; exact h.2.2.2.2.2⟩
set_option maxRecDepth 100000 in
set_option maxHeartbeats 16000000 in
theorem safe_ok (l : List SStep) (A : Option Addr) (c : Nat) (w : World) (hr : StepsRow w A l.length l) (hc : l.length ≤ c) (hz : l.length * 88 ≤ 140737488351232) (hi : ∀ s ∈ l, StepI s) (x : SDisk) (done : List Bool) (hA : SafeAll l x done) :
    Calls Try.prog 9 #[.slice A l.length c] w fun e w' => e = .returned (.bool true) ∧ Below w.heap.size w w' := by
  have Hr := Lib.hid hr
  have Hp := Lib.hid hA.p
  have HK := Lib.hid (steps_k hi)
  have HA := Lib.hid hA
  have Hxb := Lib.hid ((disk_iff _).2 hA.xok)
  have hwe : wholeR x = true := (whole_eq hA.xok).trans hA.xw
  have Hwe := Lib.hid hwe
  have Hlen := Lib.hid hA.len
  have hFx := ok_small hA.xok
  have hshort := hA.short
  clear hr hi hA hwe
  go_enter Try.func9, Try.ntmps9
  go_upto_region 2 with (first
    | (go_at_call 22; (with_reducible refine (seg_BeginK _).mono ?_); rintro e wb ⟨Afb, cfb, Alb, clb, rfl, hkb, hbb⟩)
    | (go_at_call 35; (with_reducible refine (clone_steps l A c _ (Kd.C_below Hr.out hbb) hz).mono ?_); rintro e wc ⟨vc, rfl, HO, HOB⟩)
    | (go_at_call 30; (with_reducible refine (law_do _ _).mono ?_); rintro e wd ⟨rfl, hb2⟩; have HOB := below_step HOB hb2; have HO := Kd.R_below HO hb2; clear hb2)
    | (at_builtin; refine Kd.R_append_rows kStep (w0 := wb) wb.heap.size rfl _ _ 45 58 (.agg #[.int .i64 0, .int .i64 0, .int .i64 0, .bool false, .int .i64 0, .int .i64 0, .int .i64 0, .int .i64 0, .int .i64 0, .int .i64 0, .int .i64 0]) 88 rfl (by kernel_rfl) (by kernel_rfl) rfl (by decide) (by omega) _ l [doS 6] _ 1 1 (fun _ => True) (fun _ => False) rfl rfl (Kd.R_below HO (below_alloc (Below.refl _ _) _)) (lit_steps _ [doS 6] (by simp) 1 rfl _ (by rfl)) (fun x cs h => step_KM _ _ x cs h) (fun _ h => h.elim) (fun _ _ => trivial) (below_alloc HOB _) (by have := HOB.size; rw [World.size_alloc]; omega) (by omega) ?_; intro v1 wa r1 r2 r3 r4; obtain ⟨A1, n1, c1, rfl⟩ := R_slice' r1; obtain ⟨rfl, hc1, hl1⟩ := steps_of_snoc r1; have hda := hkb wa none (below_grown r2 _) (fun _ e => by cases e))
    | (go_at_call 25; (with_reducible refine (seg_Play_n beginD (l ++ [doS 6]) (l.length + 1) ?_ _ _ _ _ _ _ _ hda fits_begin hl1 hc1 HK.out).mono ?_); simp; rintro e wp ⟨Af2, cf2, Al2, cl2, Ab2, cb2, rfl, hd2, hd3, hd4, hbp⟩; simp only [Hp.out] at hd2 hd3 hd4 ⊢))
  have HC := Lib.hid (Cells.new wp #[.slice Af2 x.files.length cf2, .slice Al2 x.list.length cl2] 33)
  have HB := Lib.hid (below_alloc (below_step (below_step hbb r2) hbp) (.cells #[.slice Af2 x.files.length cf2, .slice Al2 x.list.length cl2] 33))
  have HD := Lib.hid (hd2.later (below_alloc (Below.refl _ _) (.cells #[.slice Af2 x.files.length cf2, .slice Al2 x.list.length cl2] 33)))
  have HO2 := Lib.hid (Kd.C_below hd3 (below_alloc (Below.refl _ _) (.cells #[.slice Af2 x.files.length cf2, .slice Al2 x.list.length cl2] 33)))
  clear HO HOB hkb hbb hda hd2 hd3 hd4 hbp hl1 hc1 r1 r2 r3 r4
  generalize wp.alloc (.cells #[.slice Af2 x.files.length cf2, .slice Al2 x.list.length cl2] 33) = w2 at HC HB HD HO2 ⊢
  generalize wp.heap.size = g2 at HC ⊢
  have hwl : IntKind.i64.wrap ((l.length : Int) + 1) = (l.length : Int) + 1 := IntWalk.i64_in _ (by omega)
  have zl : ((done.length : Int) != (l.length : Int) + 1) = false := by rw [Hlen.out]; simp
  have q0 := HC.out.cell 0 _ rfl
  have q1 := HC.out.cell 1 _ rfl
  go_upto_block 0 with (first
    | (go_at_call 28; (with_reducible refine (ref_Disk x _ _ _ _ _ HD.out hFx).mono ?_); rintro e w3 ⟨rfl, hb3⟩; rw [Hxb.out]; have hc3 := HC.out.later hb3; have q03 := hc3.cell 0 _ rfl; have q13 := hc3.cell 1 _ rfl)
    | (go_at_call 29; (with_reducible refine (ref_WholeOf x _ _ _ _ _ (HD.out.later hb3)).mono ?_); rintro e w4 ⟨rfl, hb4⟩; rw [Hwe.out]))
  have hb24 := below_step hb3 hb4
  have HC4 := Lib.hid (HC.out.later hb24)
  have HB4 := Lib.hid (below_step HB.out hb24)
  have HD4 := Lib.hid (HD.out.later hb24)
  have HO4 := Lib.hid (Kd.C_below HO2.out hb24)
  clear q0 q1 q03 q13 hc3 hb3 hb4 hb24 HC HB HD HO2 zl
  go_wp2
  go_loopw [6, 7, 51] (fun o sf i wr => ∃ k : Nat, k ≤ l.length ∧ i = .int .i64 k ∧ sf = .int .i64 (((runTo (l.take k)).2.2 : Nat) : Int) ∧ Below w4.heap.size w4 wr ∧ Hid (Own kNews 26 wr w4.heap.size o (runTo (l.take k)).2.1)) (fun _ _ i _ => l.length - (intOf i).toNat)
  case atStart => exact ⟨0, Nat.zero_le _, rfl, rfl, Below.refl _ _, Lib.hid (Kd.R_nil _ _ _ _ _)⟩
  case round =>
    obtain ⟨k, hk, rfl, rfl, hB, Ho⟩ := hrel
    by_cases hlt : k < l.length
    · obtain ⟨s, ad, hget, htk, rfl, e0, es⟩ := step_at (Kd.C_below Hr.out (below_step HB4.out hB)) k hlt
      have e1 := es 1 _ (by decide) rfl
      have e2 := es 2 _ (by decide) rfl
      have e3 := es 3 _ (by decide) rfl
      have e4 := es 4 _ (by decide) rfl
      have e5 := es 5 _ (by decide) rfl
      have e6 := es 6 _ (by decide) rfl
      have e7 := es 7 _ (by decide) rfl
      have e8 := es 8 _ (by decide) rfl
      have e9 := es 9 _ (by decide) rfl
      have e10 := es 10 _ (by decide) rfl
      obtain ⟨b, ab, -, -, hgb, rfl, y0⟩ := bool_at (Kd.C_below HO4.out hB) k (by rw [Hlen.out]; omega)
      have hkd : k < done.length := by rw [Hlen.out]; omega
      have hdn := HA.out.dn k s hget
      rw [hgb] at hdn
      replace hdn := Option.some.inj hdn
      have hfs := HA.out.fits s (List.mem_of_getElem? hget)
      have hrun := run_snoc (l.take k) s
      rw [← htk] at hrun
      have hkept := run_kept (l.take k) fun z hz => HA.out.fits z ((List.take_sublist _ _).subset hz)
      have hle := hkept.le
      have hlen := run_len (l.take k)
      rw [List.length_take] at hlen
      rw [runStep, ← hdn] at hrun
      have Hrun := Lib.hid hrun
      generalize hQ : runTo (l.take k) = Q at Hrun Ho hle hlen ⊢
      obtain ⟨d, all, sfn⟩ := Q
      simp only at hle hlen
      obtain ⟨A6, c6, rfl, hc6, hr6⟩ := own_reads' Ho.out
      have hkm := HK.out s (List.mem_append_left _ (List.mem_of_getElem? hget))
      have hst := fits_stop hfs
      have hdo := fits_do hfs
      have hk0 := fits_k hfs
      clear es hgb hdn hrun hkept hQ htk hfs hr6
      obtain ⟨a, kk, st, tn, nn⟩ := s
      simp only at e0 e1 e2 e3 e4 e5 e6 e7 e8 e9 e10 hst hdo hk0 hkm
      go_upto_region 11 with fail
      have HS := Lib.hid (Cells.new wr #[.int .i64 a, .int .i64 kk, .int .i64 st, .bool tn, .int .i64 nn.do_, .int .i64 nn.src, .int .i64 nn.id, .int .i64 nn.ver, .int .i64 nn.body.at_, .int .i64 nn.body.key, .int .i64 nn.body.val] 58)
      have hbs := below_alloc (Below.refl wr.heap.size wr) (.cells #[.int .i64 a, .int .i64 kk, .int .i64 st, .bool tn, .int .i64 nn.do_, .int .i64 nn.src, .int .i64 nn.id, .int .i64 nn.ver, .int .i64 nn.body.at_, .int .i64 nn.body.key, .int .i64 nn.body.val] 58)
      have Ho1 := Lib.hid (Kd.R_below Ho.out hbs)
      have Y1 := Lib.hid (cell_keep hbs y0)
      have HBs := Lib.hid (below_step hB hbs)
      clear Ho y0 hB e0 e1 e2 e3 e4 e5 e6 e7 e8 e9 e10 hget
      generalize wr.alloc (.cells #[.int .i64 a, .int .i64 kk, .int .i64 st, .bool tn, .int .i64 nn.do_, .int .i64 nn.src, .int .i64 nn.id, .int .i64 nn.ver, .int .i64 nn.body.at_, .int .i64 nn.body.key, .int .i64 nn.body.val] 58) = ws at HS hbs Ho1 Y1 HBs ⊢
      generalize wr.heap.size = gs at HS ⊢
      clear hbs
      have y1 := Y1.out
      have q0 := HS.out.cell 0 _ rfl
      have q2 := HS.out.cell 2 _ rfl
      have q4 := HS.out.cell 4 _ rfl
      have q5 := HS.out.cell 5 _ rfl
      have q6 := HS.out.cell 6 _ rfl
      have q7 := HS.out.cell 7 _ rfl
      have q8 := HS.out.cell 8 _ rfl
      have q9 := HS.out.cell 9 _ rfl
      have q10 := HS.out.cell 10 _ rfl
      cases b
      · go_wp2
        exact ⟨⟨k + 1, by omega, by go_num, by rw [Hrun.out]; rfl, HBs.out, Lib.hid (by rw [Hrun.out]; exact Ho1.out)⟩, by simp [intOf]; omega⟩
      rcases hdo with rfl | rfl | rfl | rfl | rfl | rfl
      · go_wp2_with (at_builtin; refine Kd.R_append_rows kNews (w0 := w4) w4.heap.size rfl _ _ 34 26 (.agg #[.int .i64 0, .int .i64 0, .int .i64 0, .int .i64 0, .int .i64 0, .int .i64 0, .int .i64 0]) 56 rfl (by kernel_rfl) (by kernel_rfl) rfl (by decide) (by omega) _ all [nn] _ 1 1 (fun _ => True) (fun _ => False) rfl rfl (Kd.R_below Ho1.out (below_alloc (Below.refl _ _) _)) (lit_row kNews _ _ nn [.int .i64 nn.do_, .int .i64 nn.src, .int .i64 nn.id, .int .i64 nn.ver, .int .i64 nn.body.at_, .int .i64 nn.body.key, .int .i64 nn.body.val] 26 (Cells.new _ _ _) (kNews_mk _ _)) (fun x cs h => by obtain rfl := kNews_open h; exact kNews_mkM _ _ _ x) (fun _ h => h.elim) (fun _ _ => trivial) (below_alloc HBs.out _) (below_alloc HBs.out _).size (by omega) ?_; intro v1 wy r1 r2 r3 r4)
        exact ⟨⟨k + 1, by omega, by go_num, by rw [Hrun.out]; rfl, r2, Lib.hid (by rw [Hrun.out]; exact r1)⟩, by simp [intOf]; omega⟩
      · go_wp2
        exact ⟨⟨k + 1, by omega, by go_num, by rw [Hrun.out]; rfl, HBs.out, Lib.hid (by rw [Hrun.out]; exact Ho1.out)⟩, by simp [intOf]; omega⟩
      · go_wp2
        exact ⟨⟨k + 1, by omega, by go_num, by rw [Hrun.out]; rfl, HBs.out, Lib.hid (by rw [Hrun.out]; exact Ho1.out)⟩, by simp [intOf]; omega⟩
      · by_cases h0 : st = 0
        · subst h0
          go_wp2
          exact ⟨⟨k + 1, by omega, by go_num, by rw [Hrun.out]; rfl, HBs.out, Lib.hid (by rw [Hrun.out]; exact Ho1.out)⟩, by simp [intOf]; omega⟩
        · have h1 : decide ((0 : Int) < st) = true := decide_eq_true (by omega)
          obtain ⟨cc, hcr, hcc⟩ : ∃ cc, crashesOf ⟨4, kk, st, tn, nn⟩ = cc ∧ (cc = 0 ∨ cc = 1) := ⟨_, rfl, .inl rfl⟩
          obtain ⟨M, T, n1, n2, n3, n4, n5, n6⟩ := crash_nums all sfn kk cc hle (by omega) hk0 hkm hcc
          have n7 : T ≤ c6 := Nat.le_trans n5 hc6
          have hstep := allStep_crash (all, sfn) ⟨4, kk, st, tn, nn⟩ (.inr ⟨rfl, by show 0 < st; omega⟩)
          rw [hcr] at hstep
          simp only [n6] at hstep
          have Hrun2 := Lib.hid (Hrun.out.trans (congrArg (Prod.mk _) hstep))
          have Hcr := Lib.hid hcr
          clear hcr hcc hstep Hrun n6
          go_upto_region 17 with fail
          refine wp_region_flow [.free 0, .free 1, .free 2, .calm 3, .calm 4, .calm 5, .free 6, .free 7, .free 8, .free 9, .free 10, .free 11, .free 12, .free 13, .free 14] (Below ws.heap.size ws) (Below ws.heap.size ws) (stable_below _ _ (Nat.le_refl _)) (fun _ h => h) (by kernel_rfl) (by kernel_rfl) (below_drew1 (Below.refl _ _)) ?_
          simp only [pickEnts, pickF, List.getElem?_cons_succ, List.getElem?_cons_zero, List.filterMap_cons, List.filterMap_nil, Option.map_some]
          repeat ((first | refine flow_calm (fun K hK => ?_) | refine flow_free (fun K hK => ?_) | refine float_calm (fun K hK => ?_) | refine float_free (fun K hK => ?_)); go_simp; (try simp only [n1, n2, n3, n4]); first | (refine hK _ ?_; clear hK K) | (apply Exists.intro; (refine ⟨fun X => ?_, hK _ ?_⟩); (first | (intro hC; rfl) | rfl | (intro hC; have p := HS.out.later hC.out; have p0 := p.cell 0 _ rfl; have p1 := p.cell 1 _ rfl; have p2 := p.cell 2 _ rfl; have p3 := p.cell 3 _ rfl; have p4 := p.cell 4 _ rfl; have p5 := p.cell 5 _ rfl; have p6 := p.cell 6 _ rfl; have p7 := p.cell 7 _ rfl; have p8 := p.cell 8 _ rfl; have p9 := p.cell 9 _ rfl; have p10 := p.cell 10 _ rfl; go_simp; done) | (intro hC; have p := HS.out.later hC.out; have p0 := p.cell 0 _ rfl; have p1 := p.cell 1 _ rfl; have p2 := p.cell 2 _ rfl; have p3 := p.cell 3 _ rfl; have p4 := p.cell 4 _ rfl; have p5 := p.cell 5 _ rfl; have p6 := p.cell 6 _ rfl; have p7 := p.cell 7 _ rfl; have p8 := p.cell 8 _ rfl; have p9 := p.cell 9 _ rfl; have p10 := p.cell 10 _ rfl; go_simp; rfl) | (intro hC; (with_reducible refine (law_crashes ⟨4, kk, st, tn, nn⟩ _).mono ?_); rintro e w' ⟨rfl, hb⟩; rw [Hcr.out]; exact ⟨rfl, hb⟩)); clear hK K))
          refine flow_nil ?_
          intro w5 hX
          have hb5 := hX.out
          have Ho5 := Lib.hid (Kd.R_take (m := T) (Kd.R_below Ho1.out hb5) n5)
          have HB5 := Lib.hid (below_step HBs.out hb5)
          clear hX hb5 q0 q2 q4 q5 q6 q7 q8 q9 q10 y1 Ho1 HBs
          go_wp2
          exact ⟨⟨k + 1, by omega, by go_num, by rw [Hrun2.out], HB5.out, Lib.hid (by rw [Hrun2.out]; exact Ho5.out)⟩, by simp [intOf]; omega⟩
      · obtain ⟨cc, hcr, hcc⟩ : ∃ cc, crashesOf ⟨5, kk, st, tn, nn⟩ = cc ∧ (cc = 0 ∨ cc = 1) := ⟨_, rfl, .inr rfl⟩
        obtain ⟨M, T, n1, n2, n3, n4, n5, n6⟩ := crash_nums all sfn kk cc hle (by omega) hk0 hkm hcc
        have n7 : T ≤ c6 := Nat.le_trans n5 hc6
        have hstep := allStep_crash (all, sfn) ⟨5, kk, st, tn, nn⟩ (.inl rfl)
        rw [hcr] at hstep
        simp only [n6] at hstep
        have Hrun2 := Lib.hid (Hrun.out.trans (congrArg (Prod.mk _) hstep))
        have Hcr := Lib.hid hcr
        clear hcr hcc hstep Hrun n6
        go_upto_region 17 with fail
        refine wp_region_flow [.free 0, .free 1, .free 2, .calm 3, .calm 4, .calm 5, .free 6, .free 7, .free 8, .free 9, .free 10, .free 11, .free 12, .free 13, .free 14] (Below ws.heap.size ws) (Below ws.heap.size ws) (stable_below _ _ (Nat.le_refl _)) (fun _ h => h) (by kernel_rfl) (by kernel_rfl) (below_drew1 (Below.refl _ _)) ?_
        simp only [pickEnts, pickF, List.getElem?_cons_succ, List.getElem?_cons_zero, List.filterMap_cons, List.filterMap_nil, Option.map_some]
        repeat ((first | refine flow_calm (fun K hK => ?_) | refine flow_free (fun K hK => ?_) | refine float_calm (fun K hK => ?_) | refine float_free (fun K hK => ?_)); go_simp; (try simp only [n1, n2, n3, n4]); first | (refine hK _ ?_; clear hK K) | (apply Exists.intro; (refine ⟨fun X => ?_, hK _ ?_⟩); (first | (intro hC; rfl) | rfl | (intro hC; have p := HS.out.later hC.out; have p0 := p.cell 0 _ rfl; have p1 := p.cell 1 _ rfl; have p2 := p.cell 2 _ rfl; have p3 := p.cell 3 _ rfl; have p4 := p.cell 4 _ rfl; have p5 := p.cell 5 _ rfl; have p6 := p.cell 6 _ rfl; have p7 := p.cell 7 _ rfl; have p8 := p.cell 8 _ rfl; have p9 := p.cell 9 _ rfl; have p10 := p.cell 10 _ rfl; go_simp; done) | (intro hC; have p := HS.out.later hC.out; have p0 := p.cell 0 _ rfl; have p1 := p.cell 1 _ rfl; have p2 := p.cell 2 _ rfl; have p3 := p.cell 3 _ rfl; have p4 := p.cell 4 _ rfl; have p5 := p.cell 5 _ rfl; have p6 := p.cell 6 _ rfl; have p7 := p.cell 7 _ rfl; have p8 := p.cell 8 _ rfl; have p9 := p.cell 9 _ rfl; have p10 := p.cell 10 _ rfl; go_simp; rfl) | (intro hC; (with_reducible refine (law_crashes ⟨5, kk, st, tn, nn⟩ _).mono ?_); rintro e w' ⟨rfl, hb⟩; rw [Hcr.out]; exact ⟨rfl, hb⟩)); clear hK K))
        refine flow_nil ?_
        intro w5 hX
        have hb5 := hX.out
        have Ho5 := Lib.hid (Kd.R_take (m := T) (Kd.R_below Ho1.out hb5) n5)
        have HB5 := Lib.hid (below_step HBs.out hb5)
        clear hX hb5 q0 q2 q4 q5 q6 q7 q8 q9 q10 y1 Ho1 HBs
        go_wp2
        exact ⟨⟨k + 1, by omega, by go_num, by rw [Hrun2.out], HB5.out, Lib.hid (by rw [Hrun2.out]; exact Ho5.out)⟩, by simp [intOf]; omega⟩
      · go_wp2
        exact ⟨⟨k + 1, by omega, by go_num, by rw [Hrun.out]; rfl, HBs.out, Lib.hid (by rw [Hrun.out]; exact Ho1.out)⟩, by simp [intOf]; omega⟩
    · have hkl : k = l.length := by omega
      subst hkl
      have hal := run_len l
      have hsm : ((runTo l).2.1.length + 1) * 56 ≤ 140737488355328 := by omega
      have hsx : ((thereOf x).length + 1) * 56 ≤ 140737488355328 := by have := HA.out.xok.there_len; omega
      have hts : ∀ n ∈ thereOf x, 0 ≤ n.src ∧ n.src < 4 := fun n hn => good_src (there_good HA.out.xok n hn)
      have Hsrc := Lib.hid HA.out.src
      have Hal := Lib.hid (HA.out.says.alike hts HA.out.src)
      rw [List.take_length] at Ho ⊢
      obtain ⟨A6, c6, rfl, hc6, hr6⟩ := own_reads' Ho.out
      have HR6 := Lib.hid hr6
      have HCw := Lib.hid (HC4.out.later hB)
      have HDw := Lib.hid (HD4.out.later hB)
      have HBw := Lib.hid (below_step HB4.out hB)
      clear hr6 Ho hB HC4 HD4 HB4 HO4 Hp HK Hlen HO HOB
      generalize (runTo l).2.1 = all at *
      have q0 := HCw.out.cell 0 _ rfl
      have q1 := HCw.out.cell 1 _ rfl
      go_wp2_with (first
        | (go_at_call 14; (with_reducible refine (kn_news_at Hxb.out rfl _ _ _ _ _ HDw.out).mono ?_); rintro e w8 ⟨A8, c8, rfl, h8, hc8, hb8⟩)
        | (go_at_call 31; (with_reducible refine (law_says (thereOf x) all _ _ _ _ _ h8 (Kd.C_below HR6.out hb8) hc8 hc6 hsx hsm hts Hsrc.out Hal.out).mono ?_); rintro e w9 ⟨rfl, hb9⟩)
        | (go_at_call 13; (with_reducible refine (law_known _).mono ?_); rintro e w10 ⟨rfl, hb10⟩))
      go_ret
      exact ⟨rfl, below_step HBw.out (below_step (below_step hb8 hb9) hb10)⟩
theorem law_segsafe (l : List SStep) (A : Option Addr) (c : Nat) (w : World) (hr : StepsRow w A l.length l) (hc : l.length ≤ c) (hz : l.length * 88 ≤ 140737488351232) (hi : ∀ s ∈ l, StepI s) :
    Calls Try.prog 9 #[.slice A l.length c] w fun e w' => e = .returned (.bool true) ∧ Below w.heap.size w w' := by
  rcases safe_facts l with ⟨k, hk, hp⟩ | ⟨x, done, hA⟩
  · exact safe_err l A c w hr hc hz hi k hk hp
  · exact safe_ok l A c w hr hc hz hi x done hA
end Go.Proofs.Ytfmojgdomficlaa
namespace Go.Proofs.Ytfmojgdomficlaa.SegSafe
open Go.ChangeShapes Go.WideShapes Go.ChangeAt Go.RowKit
open Go.ChangeMaps (open_string shut_string)
theorem own : ownKnob Try.prog.godebug = none := by kernel_rfl
theorem laidOut : laidOutB Try.prog = true := by kernel_rfl
set_option maxRecDepth 100000 in
theorem lifted (os : Os) (started : os.Started) (H : Type) (enc : TypeId × Value → H) :
    ReturnsInHanded {} Try.checked os 9 .any (Rows.segSafeSpec.pre6 enc Try.prog Try.f9 Rows.segSafeRow.domain false) (Rows.segSafeSpec.post enc Try.prog Try.f9 false true false false) := by
  refine returnsInHanded_of_change_sized (C := Try.checked) own started (by kernel_rfl) Try.func9
    (ChangeSpec.witness6 (enc := enc) (C := Try.checked) false ⟨#[], #[.slice none 0 0], []⟩ 8 (by kernel_rfl) (by kernel_rfl) (by kernel_rfl) (by kernel_rfl)) ?_
  intro W base args ds gs before hval0 hW hcnd hsz0 _
  have hsz : (DataW.weightsEach Try.prog (Try.f9.params.toList ++ Rows.segSafeSpec.plain.varTypes Try.prog) (ds ++ gs)).all (· ≤ reachBytes) = true := hsz0
  have hval : ∀ (j : Nat) t v, Try.f9.params[j]? = some t → args[j]? = some v → Value.okWide Try.prog W .any base t v := hval0
  have hW' := hW
  obtain ⟨p, q, hA0, hV, rfl, hfz, hnd⟩ := hW
  have hA : DataW.TrodAll enc Try.prog W 0 (fun _ => true) true Try.f9.params.toList args.toList ds p := hA0
  rw [Try.params9] at hA hval hsz
  obtain ⟨v0, vs0, d0, ds0, p0, q0, hargs, rfl, rfl, h0, r0⟩ := trodAll_cons hA
  obtain ⟨rfl, rfl, rfl⟩ := trodAll_nil r0
  obtain rfl : args = #[v0] := by cases args; simp_all
  obtain ⟨rfl, rfl⟩ := trodVars_none hV
  obtain ⟨a0, len0, cap0, rfl⟩ := okWide_slice Try.underlying45 (hval 0 45 v0 rfl rfl)
  have k0 := h0
  have lt0 : ∀ x ∈ p0, x.block < W.heap.size := by obtain ⟨m, hm⟩ := k0; exact DataW.trod_lt m _ _ _ hm
  obtain ⟨l0, rfl, hc0, hz0, hr0, hi0⟩ := open_steps h0 (small_of hsz (j := 0) rfl rfl)
  clear hA0 hval0 hsz0 hsz
  refine (law_segsafe l0 a0 cap0 W hr0 hc0 hz0 hi0).mono fun e W' ⟨he, bel⟩ => ?_
  subst he
  exact ⟨_, rfl, _, _, _, [], _, [], hW', trodAll_mk1 (shut_bool Try.underlying4 _), (trodAll_cons_mk (Below.trod laidOut (by kernel_rfl) (of_decide_eq_true (by kernel_rfl)) k0 bel lt0) trodAll_mk0), rfl, bel.frame _, fun h => by cases h⟩
theorem over : Rows.segSafeRow.holds Try.pinned (OpenSpec.ofChange Rows.segSafeSpec) :=
  OpenClaim.holds_of_wide 9 Try.f9 rfl rfl rfl rfl rfl rfl rfl ⟨rfl, rfl, rfl, rfl, rfl⟩ rfl rfl rfl rfl rfl (by kernel_rfl) Try.func9 (by kernel_rfl)
    (of_decide_eq_true (by kernel_rfl)) (by unfold Func.isWrapper; first | (rw [if_pos (by decide +kernel)]; kernel_rfl) | (rw [if_neg (by decide +kernel)]; exact ⟨rfl, rfl⟩))
    (fun os started H enc _ => lifted os started H enc)
end Go.Proofs.Ytfmojgdomficlaa.SegSafe
namespace Go.Proofs.Ytfmojgdomficlaa
/-- The row. -/
theorem SegSafe_holds : Rows.SegSafeSaid := SegSafe.over
#print axioms SegSafe_holds
end Go.Proofs.Ytfmojgdomficlaa
