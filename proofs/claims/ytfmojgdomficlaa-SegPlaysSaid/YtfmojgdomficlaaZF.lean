/-
  Texts of one hand, laid together: SegCrash, SegReopen, HeardTypes, SegBest.
-/
import Derived.Test.YtfmojgdomficlaaZE
import Derived.Test.YtfmojgdomficlaaZA
import Derived.Test.YtfmojgdomficlaaZB
set_option linter.unusedVariables false
set_option linter.unusedSimpArgs false
/-! A device crashes. -/
namespace Go.Proofs.Ytfmojgdomficlaa
open Go.RowKit Go.Shelf Go.Proofs.YtfmojgdomficlaaW.PrintWords

def badOf (n : News) : SRec := ⟨n, (segSum n + 1) % 9973⟩
/-- The records that a crash leaves. -/
def leftOf (f : SFile) (k : Int) : Nat := if k < (f.recs.length : Int) - f.safe then (f.safe + k).toNat else f.recs.length
def keptOf (f : SFile) (k : Int) (torn : Bool) : List SRec := f.recs.take (leftOf f k) ++ (if torn = true ∧ leftOf f k < f.recs.length then [badOf ((f.recs[leftOf f k]?.getD default).news)] else [])
def crashD (d : SDisk) (i : Nat) (k : Int) (torn : Bool) : SDisk := ⟨d.files.set i ⟨(fileAt d i).no, keptOf (fileAt d i) k torn, (keptOf (fileAt d i) k torn).length⟩, d.list⟩
set_option maxRecDepth 100000 in
set_option maxHeartbeats 2000000 in
theorem seg_merge1 (no safe a b : Int) (A : Option Addr) (n c pa pb : Nat) (w : World) (ha : w.cell? ⟨pa, 0, none⟩ = some (.int .i64 a)) (hb : w.cell? ⟨pb, 0, none⟩ = some (.int .i64 b)) :
    Calls Try.prog 91 #[.agg #[.int .i64 no, .slice A n c, .int .i64 safe], .pointer (some ⟨pa, 0, none⟩), .pointer (some ⟨pb, 0, none⟩)] w fun e w' => e = .returned (.bool (!(!(no == a) && !(no == b)))) ∧ Below w.heap.size w w' := by
  have h1 := World.new_ne w _ ha
  have h2 := World.new_ne w _ hb
  have l1 := World.block_lt_of_cell? w _ ha
  have l2 := World.block_lt_of_cell? w _ hb
  cases hx : (no == a)
  · cases hy : (no == b)
    all_goals
      go_enter Try.func91, Try.ntmps91
      go_wp2
      go_ret
      exact ⟨rfl, (by repeat (first | exact Below.refl _ _ | assumption | apply below_alloc | apply below_drew1 | apply pw_below_drewN | refine below_step ?_ (by assumption)))⟩
  · go_enter Try.func91, Try.ntmps91
    go_wp2
    go_ret
    exact ⟨rfl, (by repeat (first | exact Below.refl _ _ | assumption | apply below_alloc | apply below_drew1 | apply pw_below_drewN | refine below_step ?_ (by assumption)))⟩
set_option maxRecDepth 100000 in
set_option maxHeartbeats 2000000 in
theorem seg_reopen1 (d : SDisk) (b : Nat) (Af Al : Option Addr) (cf cl : Nat) (no safe : Int) (A : Option Addr) (n c pd : Nat) (w : World) (hd : DAt w b Af cf Al cl d) (hp : w.cell? ⟨pd, 0, none⟩ = some (.pointer (some ⟨b, 0, none⟩))) :
    Calls Try.prog 92 #[.agg #[.int .i64 no, .slice A n c, .int .i64 safe], .pointer (some ⟨pd, 0, none⟩)] w fun e w' => e = .returned (.bool (!d.list.contains no)) ∧ Below w.heap.size w w' := by
  have h1 := World.new_ne w _ hp
  have l1 := World.block_lt_of_cell? w _ hp
  have Hd := Lib.hid hd
  clear hd
  go_enter Try.func92, Try.ntmps92
  go_wp2_with (first
    | (go_at_call 61; refine (seg_listed d b _ _ cf cl _ _ (Hd.out.later (below_alloc (Below.refl _ _) _))).mono ?_; rintro e w4 ⟨rfl, hb4⟩))
  go_ret
  exact ⟨by simp, below_step (below_alloc (Below.refl _ _) _) hb4⟩
theorem leftOf_le (f : SFile) (k : Int) (hk : 0 ≤ k) (hs : 0 ≤ f.safe) : leftOf f k ≤ f.recs.length := by
  unfold leftOf; split <;> omega
set_option maxRecDepth 100000 in
set_option maxHeartbeats 8000000 in
theorem seg_crash (d : SDisk) (h0 : Nat) (b : Nat) (vf vl : Value) (rs : List RF) (i : Nat) (s : SStep) (w : World) (hd : DOwn h0 w b vf vl rs d) (ho : OpenOk d i) (hk : 0 ≤ s.k) (hk2 : s.k ≤ 9223372036854775807) (hs0 : 0 ≤ (fileAt d i).safe) (hs1 : (fileAt d i).safe ≤ (fileAt d i).recs.length) (hl : (fileAt d i).recs.length ≤ 100000) (hh : h0 ≤ w.heap.size) :
    Calls Try.prog 71 #[.pointer (some ⟨b, 0, none⟩), .agg #[.int .i64 s.do_, .int .i64 s.k, .int .i64 s.stop, .bool s.torn, .int .i64 s.news.do_, .int .i64 s.news.src, .int .i64 s.news.id, .int .i64 s.news.ver, .int .i64 s.news.body.at_, .int .i64 s.news.body.key, .int .i64 s.news.body.val]] w (DiskPost h0 b true (crashD d i s.k s.torn) w) := by
  have hil := ho.lt
  have hf := fileAt_get hil
  obtain ⟨r, hr⟩ : ∃ r, rs[i]? = some r := ⟨_, List.getElem?_eq_getElem (by rw [hd.rows.len]; exact hil)⟩
  obtain ⟨r1, r2, r3⟩ := hd.rows.rel i r _ hr hf
  obtain ⟨g, cf, rfl, hg0, hgl, -, g1, g2, gf⟩ := hd.cells hr
  obtain ⟨Af, cf', Al, cl, hvf, rfl, hda⟩ := hd.reads
  injection hvf with e1 e2 e3
  subst e1 e3
  obtain ⟨rno, rA, rn, rc, rsafe⟩ := r
  obtain ⟨A', c', he, hlc, hrow⟩ := own_reads' r3
  obtain rfl : rn = (fileAt d i).recs.length := by injection he
  obtain rfl : rc = c' := by injection he
  obtain rfl : rA = A' := by injection he
  have r2' : rsafe = (fileAt d i).safe := r2
  subst r2'
  have hln := leftOf_le (fileAt d i) s.k hk hs0
  have Hd := Lib.hid hd
  have Hda := Lib.hid hda
  have Ho := Lib.hid ho
  have Hr := Lib.hid hr
  have Hf := Lib.hid hf
  have Hrow := Lib.hid hrow
  have Hg1 := Lib.hid (show w.cell? ⟨g, i * 3 + 1, none⟩ = some (.slice rA (fileAt d i).recs.length rc) from g1)
  have Hg2 := Lib.hid (show w.cell? ⟨g, i * 3 + 2, none⟩ = some (.int .i64 (fileAt d i).safe) from g2)
  have Hgf := Lib.hid gf
  clear hd hda hr hf g1 g2 gf r1 r2 r3 ho he hrow
  have hcr := Lib.hid (show crashD d i s.k s.torn = _ from rfl)
  have hsub : IntKind.i64.wrap (((fileAt d i).recs.length : Int) - (fileAt d i).safe) = ((fileAt d i).recs.length : Int) - (fileAt d i).safe := by rw [IntWalk.i64_in _ (by omega)]
  have Hsub := Lib.hid hsub
  clear hsub
  obtain ⟨left, hleft⟩ : ∃ left, leftOf (fileAt d i) s.k = left := ⟨_, rfl⟩
  have hways : (decide (s.k < ((fileAt d i).recs.length : Int) - (fileAt d i).safe) = true ∧ Hid (IntKind.i64.wrap ((fileAt d i).safe + s.k) = (left : Int))) ∨ (decide (s.k < ((fileAt d i).recs.length : Int) - (fileAt d i).safe) = false ∧ Hid (left = (fileAt d i).recs.length)) := by
    unfold leftOf at hleft
    by_cases hc : s.k < ((fileAt d i).recs.length : Int) - (fileAt d i).safe
    · rw [if_pos hc] at hleft
      exact .inl ⟨by simpa using hc, Lib.hid (by rw [IntWalk.i64_in _ (by omega)]; omega)⟩
    · rw [if_neg hc] at hleft
      exact .inr ⟨by simpa using hc, Lib.hid hleft.symm⟩
  rw [hleft] at hln
  have Hleft := Lib.hid hleft
  clear hleft
  go_enter Try.func71, Try.ntmps71
  go_wp2_with (first
      | (go_at_call 85; refine (seg_open d b ⟨g, 0, none⟩ _ _ _ i _ Ho.out.ne Ho.out.at_ (Hda.out.later (below_alloc (Below.refl _ _) _))).mono ?_; rintro e w2 ⟨rfl, hb2⟩; have hB2 : Below w.heap.size w w2 := below_step (below_alloc (Below.refl _ _) _) (by simpa using hb2); have hS2 : Cells w2 w.heap.size #[.int .i64 s.do_, .int .i64 s.k, .int .i64 s.stop, .bool s.torn, .int .i64 s.news.do_, .int .i64 s.news.src, .int .i64 s.news.id, .int .i64 s.news.ver, .int .i64 s.news.body.at_, .int .i64 s.news.body.key, .int .i64 s.news.body.val] 58 := (Cells.new w _ _).later (by simpa using hb2); have q1 : w2.cell? ⟨g, i * 3 + 1, none⟩ = _ := cell_keep hB2 Hg1.out))
  have HS2 := Lib.hid hS2
  clear hS2
  refine wp_region_flow [.free 0, .calm 1, .free 2, .free 3, .free 4, .free 5, .calm 6, .free 7, .free 8] (Below w2.heap.size w2) (Below w2.heap.size w2) (stable_below _ _ (Nat.le_refl _)) (fun _ h => h) (by kernel_rfl) (by kernel_rfl) (below_drew1 (Below.refl _ _)) ?_
  simp only [pickEnts, pickF, List.getElem?_cons_succ, List.getElem?_cons_zero, List.filterMap_cons, List.filterMap_nil, Option.map_some]
  repeat ((first | refine flow_calm (fun K hK => ?_) | refine flow_free (fun K hK => ?_) | refine float_calm (fun K hK => ?_) | refine float_free (fun K hK => ?_)); go_simp; (try simp only [Hsub.out]); first | (refine hK _ ?_; clear hK K) | (apply Exists.intro; (refine ⟨fun X => ?_, hK _ ?_⟩); (first | (intro hC; rfl) | rfl | (intro hC; have q1 : X.cell? ⟨g, i * 3 + 2, none⟩ = _ := cell_keep (below_step hB2 hC.out) Hg2.out; have c1 := (HS2.out.later hC.out).cell 1 _ rfl; go_simp; done) | (intro hC; have q1 : X.cell? ⟨g, i * 3 + 2, none⟩ = _ := cell_keep (below_step hB2 hC.out) Hg2.out; have c1 := (HS2.out.later hC.out).cell 1 _ rfl; go_simp; rfl)); clear hK K))
  refine flow_nil ?_
  intro X hX
  have hbX := hX.out
  clear hX
  have hcp : ∀ W, Below w.heap.size w W → Calls Try.prog 66 #[.slice rA left rc] W fun e w' => ∃ v, e = .returned v ∧ Own kSRec 83 w' w.heap.size v ((fileAt d i).recs.take left) ∧ Below W.heap.size W w' := fun W hW => by
    have h := seg_copied_srec ((fileAt d i).recs.take left) rA rc W (Kd.C_take (Kd.C_below Hrow.out hW) hln) (by rw [List.length_take]; omega)
    rw [List.length_take, Nat.min_eq_left hln] at h
    exact h.mono fun e w' ⟨v, h1, h2, h3⟩ => ⟨v, h1, Kd.R_lower h2 hW.size, h3⟩
  have Hcp := Lib.hid hcp
  clear hcp
  rcases hways with ⟨hk3, Hlw⟩ | ⟨hk3, Hlw⟩
  · have hk4 : s.k < ((fileAt d i).recs.length : Int) - (fileAt d i).safe := by simpa using hk3
    go_wp2
    refine wp_region_flow [.free 0, .free 1, .free 2, .calm 3, .free 4, .calm 5, .free 6, .free 7] (Below X.heap.size X) (Below X.heap.size X) (stable_below _ _ (Nat.le_refl _)) (fun _ h => h) (by kernel_rfl) (by kernel_rfl) (below_drew1 (Below.refl _ _)) ?_
    simp only [pickEnts, pickF, List.getElem?_cons_succ, List.getElem?_cons_zero, List.filterMap_cons, List.filterMap_nil, Option.map_some]
    repeat ((first | refine flow_calm (fun K hK => ?_) | refine flow_free (fun K hK => ?_) | refine float_calm (fun K hK => ?_) | refine float_free (fun K hK => ?_)); go_simp; (try simp only [Hlw.out]); first | (refine hK _ ?_; clear hK K) | (apply Exists.intro; (refine ⟨fun X => ?_, hK _ ?_⟩); (first | (intro hC; rfl) | rfl | (intro hC; have q1 : X.cell? ⟨g, i * 3 + 2, none⟩ = _ := cell_keep (below_step (below_step hB2 hbX) hC.out) Hg2.out; have c1 := (HS2.out.later (below_step hbX hC.out)).cell 1 _ rfl; go_simp; done) | (intro hC; have q1 : X.cell? ⟨g, i * 3 + 2, none⟩ = _ := cell_keep (below_step (below_step hB2 hbX) hC.out) Hg2.out; have c1 := (HS2.out.later (below_step hbX hC.out)).cell 1 _ rfl; go_simp; rfl)); clear hK K))
    refine flow_nil ?_
    intro X hX
    replace hbX := below_step hbX hX.out
    clear hX
    have q1 : X.cell? ⟨g, i * 3 + 1, none⟩ = _ := cell_keep (below_step hB2 hbX) Hg1.out
    by_cases htl : s.torn = true ∧ left < (fileAt d i).recs.length
    · obtain ⟨ht, htl⟩ := htl
      have htb : decide (left < (fileAt d i).recs.length) = true := by simpa using htl
      have Hk := Lib.hid (show keptOf (fileAt d i) s.k s.torn = (fileAt d i).recs.take left ++ [badOf (((fileAt d i).recs[left]?.getD default).news)] by rw [keptOf, Hleft.out, if_pos ⟨ht, htl⟩])
      obtain ⟨x, ad, -, -, hget, hAd, e0, e1, e2, e3, e4, e5, e6, -⟩ := srec_at Hrow.out left htl
      have Hx := Lib.hid (show ((fileAt d i).recs[left]?.getD default).news = x.news by rw [hget]; rfl)
      subst hAd
      clear hget
      go_wp2_with (first
        | ((with_reducible refine (Hcp.out _ (below_step hB2 hbX)).mono ?_); rintro e w3 ⟨v3, rfl, ho3, hb3⟩; obtain ⟨A3, n3, c3, rfl⟩ := R_slice' ho3; have hB3 := below_step (below_step hB2 hbX) hb3; have x3 := (HS2.out.later (below_step hbX hb3)).cell 3 _ rfl; have y1 : w3.cell? ⟨g, i * 3 + 1, none⟩ = _ := cell_keep hB3 Hg1.out; have z0 := cell_keep hB3 e0; have z1 := cell_keep hB3 e1; have z2 := cell_keep hB3 e2; have z3 := cell_keep hB3 e3; have z4 := cell_keep hB3 e4; have z5 := cell_keep hB3 e5; have z6 := cell_keep hB3 e6))
      have hs0' : 0 ≤ segSum x.news := (segPart_bd x.news 7).1
      have hs1' : segSum x.news < 9973 := (segPart_bd x.news 7).2
      have hm1 : IntKind.i64.wrap (segSum x.news + 1) = segSum x.news + 1 := by rw [IntWalk.i64_in _ (by omega)]
      have hm2 : (segSum x.news + 1).tmod 9973 = (segSum x.news + 1) % 9973 := Int.tmod_eq_emod_of_nonneg (by omega)
      have hm3 : IntKind.i64.wrap ((segSum x.news + 1) % 9973) = (segSum x.news + 1) % 9973 := by rw [IntWalk.i64_in _ (by omega)]
      have Hm1 := Lib.hid hm1
      have Hm2 := Lib.hid hm2
      have Hm3 := Lib.hid hm3
      have Hnw := Lib.hid (Cells.new w3 #[.int .i64 x.news.do_, .int .i64 x.news.src, .int .i64 x.news.id, .int .i64 x.news.ver, .int .i64 x.news.body.at_, .int .i64 x.news.body.key, .int .i64 x.news.body.val] 26)
      have HB4 := Lib.hid (below_alloc (Below.refl w3.heap.size w3) (.cells #[.int .i64 x.news.do_, .int .i64 x.news.src, .int .i64 x.news.id, .int .i64 x.news.ver, .int .i64 x.news.body.at_, .int .i64 x.news.body.key, .int .i64 x.news.body.val] 26))
      have Ho3 := Lib.hid ho3
      clear hm1 hm2 hm3 ho3 x3 y1 z0 z1 z2 z3 z4 z5 z6 q1
      generalize hw4 : w3.alloc (.cells #[.int .i64 x.news.do_, .int .i64 x.news.src, .int .i64 x.news.id, .int .i64 x.news.ver, .int .i64 x.news.body.at_, .int .i64 x.news.body.key, .int .i64 x.news.body.val] 26) = w4 at Hnw HB4 ⊢
      clear hw4
      refine wp_region_flow [.free 0, .calm 1, .calm 2, .calm 3, .free 4, .free 5, .free 6, .fence 7, .fence 8, .free 9] (Below w4.heap.size w4) (Below w4.heap.size w4) (stable_below _ _ (Nat.le_refl _)) (fun _ h => h) (by kernel_rfl) (by kernel_rfl) (below_drew1 (Below.refl _ _)) ?_
      simp only [pickEnts, pickF, List.getElem?_cons_succ, List.getElem?_cons_zero, List.filterMap_cons, List.filterMap_nil, Option.map_some]
      repeat ((first | refine flow_calm (fun K hK => ?_) | refine flow_free (fun K hK => ?_) | refine float_calm (fun K hK => ?_) | refine float_free (fun K hK => ?_)); go_simp; (try simp only [Hm1.out, Hm2.out, Hm3.out]); first | (refine hK _ ?_; clear hK K) | (apply Exists.intro; (refine ⟨fun X => ?_, hK _ ?_⟩); (first | (intro hC; rfl) | rfl | (intro hC; have y := Hnw.out.later hC.out; have c0 := y.cell 0 _ rfl; have c1 := y.cell 1 _ rfl; have c2 := y.cell 2 _ rfl; have c3 := y.cell 3 _ rfl; have c4 := y.cell 4 _ rfl; have c5 := y.cell 5 _ rfl; have c6 := y.cell 6 _ rfl; go_simp; done) | (intro hC; have y := Hnw.out.later hC.out; have c0 := y.cell 0 _ rfl; have c1 := y.cell 1 _ rfl; have c2 := y.cell 2 _ rfl; have c3 := y.cell 3 _ rfl; have c4 := y.cell 4 _ rfl; have c5 := y.cell 5 _ rfl; have c6 := y.cell 6 _ rfl; go_simp; rfl) | (intro hC; (with_reducible refine (seg_Sum x.news _).mono ?_); rintro e w' ⟨rfl, hb⟩; exact ⟨rfl, hb⟩)); clear hK K))
      refine flow_fence rfl (fun X4 hX4 K hK => ?_)
      go_simp
      generalize hbq : X4.heap.size = B2
      have hnw : Cells (X4.alloc (.cells #[.int .i64 x.news.do_, .int .i64 x.news.src, .int .i64 x.news.id, .int .i64 x.news.ver, .int .i64 x.news.body.at_, .int .i64 x.news.body.key, .int .i64 x.news.body.val, .int .i64 ((segSum x.news + 1) % 9973)] 83)) B2 #[.int .i64 x.news.do_, .int .i64 x.news.src, .int .i64 x.news.id, .int .i64 x.news.ver, .int .i64 x.news.body.at_, .int .i64 x.news.body.key, .int .i64 x.news.body.val, .int .i64 ((segSum x.news + 1) % 9973)] 83 := hbq ▸ Cells.new X4 _ _
      refine hK.out _ _ (fun Z => Below w4.heap.size w4 Z ∧ Cells Z B2 #[.int .i64 x.news.do_, .int .i64 x.news.src, .int .i64 x.news.id, .int .i64 x.news.ver, .int .i64 x.news.body.at_, .int .i64 x.news.body.key, .int .i64 x.news.body.val, .int .i64 ((segSum x.news + 1) % 9973)] 83) (fun Z => Below w4.heap.size w4 Z ∧ Cells Z B2 #[.int .i64 x.news.do_, .int .i64 x.news.src, .int .i64 x.news.id, .int .i64 x.news.ver, .int .i64 x.news.body.at_, .int .i64 x.news.body.key, .int .i64 x.news.body.val, .int .i64 ((segSum x.news + 1) % 9973)] 83) (fun Z Z' hZ hb => ⟨hZ.1.trans (Below.mono hb hZ.1.size), hZ.2.later hb⟩) (fun _ h => h) ⟨below_alloc hX4.out _, hnw⟩ ?_
      clear hK K hX4 hnw hbq
      refine flow_fence rfl (fun X5 hX5 K hK => ?_)
      obtain ⟨hb5, hcB⟩ := hX5.out
      have hB5 : Below w.heap.size w X5 := below_step hB3 (HB4.out.trans (Below.mono hb5 HB4.out.size))
      have ho5 := Kd.R_below Ho3.out (HB4.out.trans (Below.mono hb5 HB4.out.size))
      refine Kd.R_append_rows_step kSRec (w0 := X5) w.heap.size (by rfl) (.tmp 58) (.tmp 65) 60 83 (.agg #[.int .i64 0, .int .i64 0, .int .i64 0, .int .i64 0, .int .i64 0, .int .i64 0, .int .i64 0, .int .i64 0]) 64 rfl (by kernel_rfl) (by kernel_rfl) rfl (by decide) (by omega) (.slice A3 n3 c3) ((fileAt d i).recs.take left) [badOf x.news] _ _ _ (fun _ => True) (fun _ => False) rfl rfl ho5 (lit_row kSRec X5 B2 (badOf x.news) [.int .i64 x.news.do_, .int .i64 x.news.src, .int .i64 x.news.id, .int .i64 x.news.ver, .int .i64 x.news.body.at_, .int .i64 x.news.body.key, .int .i64 x.news.body.val, .int .i64 ((segSum x.news + 1) % 9973)] 83 hcB (kSRec_mk _ _)) (fun x cs h => by obtain rfl := kSRec_open h; exact kSRec_mkM _ _ _ x) (fun _ h => h.elim) (fun _ _ => trivial) (Below.refl _ _) hB5.size (by rw [List.length_take]; omega) ?_
      intro v1 w6 r1 r2 r3 r4
      obtain ⟨A5, n5, c5, rfl⟩ := R_slice' r1
      refine hK.out _ _ (fun Z => Below w.heap.size w Z ∧ Own kSRec 83 Z w.heap.size (.slice A5 n5 c5) ((fileAt d i).recs.take left ++ [badOf x.news])) (fun Z => Below w.heap.size w Z ∧ Own kSRec 83 Z w.heap.size (.slice A5 n5 c5) ((fileAt d i).recs.take left ++ [badOf x.news])) (fun Z Z' hZ hb => ⟨below_step hZ.1 hb, Kd.R_below hZ.2 hb⟩) (fun _ h => h) ⟨hB5.trans r2, r1⟩ ?_
      clear hK K hX5 hb5 hcB hB5 ho5 r1 r2 r3 r4
      repeat ((first | refine flow_calm (fun K hK => ?_) | refine flow_free (fun K hK => ?_) | refine float_calm (fun K hK => ?_) | refine float_free (fun K hK => ?_)); go_simp; first | (refine hK _ ?_; clear hK K) | (apply Exists.intro; (refine ⟨fun X => ?_, hK _ ?_⟩); (first | (intro hC; rfl) | rfl | (intro hC; skip; go_simp; done) | (intro hC; skip; go_simp; rfl)); clear hK K))
      refine flow_nil ?_
      intro Z hZ
      obtain ⟨hBZ, hoZ⟩ := hZ.out
      clear hZ
      have u1 : Z.cell? ⟨g, i * 3 + 1, none⟩ = _ := cell_keep hBZ Hg1.out
      have u2 : Z.cell? ⟨g, i * 3 + 2, none⟩ = _ := cell_keep hBZ Hg2.out
      have uf1 : Z.frozen? ⟨g, i * 3 + 1, none⟩ = false := ((bcell hBZ).2 g _ hgl).trans (Hgf.out _)
      have uf2 : Z.frozen? ⟨g, i * 3 + 2, none⟩ = false := ((bcell hBZ).2 g _ hgl).trans (Hgf.out _)
      go_wp2
      have hP := Hd.out.put_recs Hr.out Hf.out rfl (below_grown hBZ _) ⟨rno, A5, n5, c5, (fileAt d i).safe⟩ rfl rfl ((fileAt d i).recs.take left ++ [badOf x.news]) (Kd.R_lower hoZ hh) (.inr fun k hk => (own_ty hoZ hk).1)
      have hil2 : i < rs.length := (List.getElem?_eq_some_iff.1 Hr.out).1
      have hP2 := hP.put_safe (i := i) (r := ⟨rno, A5, n5, c5, (fileAt d i).safe⟩) (f := ⟨(fileAt d i).no, (fileAt d i).recs.take left ++ [badOf x.news], (fileAt d i).safe⟩) (List.getElem?_set_self hil2) (List.getElem?_set_self hil) rfl (((fileAt d i).recs.take left ++ [badOf x.news]).length : Int)
      have hnn : n5 = ((fileAt d i).recs.take left ++ [badOf x.news]).length := by
        obtain ⟨A', c', he, -, -⟩ := own_reads' hoZ
        injection he
      rw [List.set_set, List.set_set, ← hnn] at hP2
      have hfin : crashD d i s.k s.torn = ⟨d.files.set i ⟨(fileAt d i).no, (fileAt d i).recs.take left ++ [badOf x.news], (n5 : Nat)⟩, d.list⟩ := by rw [crashD, Hk.out, Hx.out, ← hnn]
      have hP3 := hfin ▸ hP2
      go_ret
      exact ⟨_, _, _, rfl, hP3, ((Kp.of hBZ hh).setCell (p := ⟨g, i * 3 + 1, none⟩) hg0 (Hd.out.later hBZ).mineF _).setCell (p := ⟨g, i * 3 + 2, none⟩) hg0 (mine_set (Hd.out.later hBZ).mineF _ _) _⟩
    · have Hk := Lib.hid (show keptOf (fileAt d i) s.k s.torn = (fileAt d i).recs.take left by rw [keptOf, Hleft.out, if_neg htl, List.append_nil])
      by_cases ht : s.torn = true
      · have htb : decide (left < (fileAt d i).recs.length) = false := by simp only [decide_eq_false_iff_not]; exact fun h => htl ⟨ht, h⟩
        go_wp2_with (first
          | ((with_reducible refine (Hcp.out _ (below_step hB2 hbX)).mono ?_); rintro e w3 ⟨v3, rfl, ho3, hb3⟩; obtain ⟨A3, n3, c3, rfl⟩ := R_slice' ho3; have hB3 := below_step (below_step hB2 hbX) hb3; have x3 := (HS2.out.later (below_step hbX hb3)).cell 3 _ rfl; have y1 : w3.cell? ⟨g, i * 3 + 1, none⟩ = _ := cell_keep hB3 Hg1.out; have u1 : w3.cell? ⟨g, i * 3 + 1, none⟩ = _ := cell_keep hB3 Hg1.out; have u2 : w3.cell? ⟨g, i * 3 + 2, none⟩ = _ := cell_keep hB3 Hg2.out; have uf1 : w3.frozen? ⟨g, i * 3 + 1, none⟩ = false := ((bcell hB3).2 g _ hgl).trans (Hgf.out _); have uf2 : w3.frozen? ⟨g, i * 3 + 2, none⟩ = false := ((bcell hB3).2 g _ hgl).trans (Hgf.out _)))
        have hP := Hd.out.put_recs Hr.out Hf.out rfl (below_grown hB3 _) ⟨rno, A3, n3, c3, (fileAt d i).safe⟩ rfl rfl ((fileAt d i).recs.take left) (Kd.R_lower ho3 hh) (.inr fun k hk => (own_ty ho3 hk).1)
        have hil2 : i < rs.length := (List.getElem?_eq_some_iff.1 Hr.out).1
        have hP2 := hP.put_safe (i := i) (r := ⟨rno, A3, n3, c3, (fileAt d i).safe⟩) (f := ⟨(fileAt d i).no, (fileAt d i).recs.take left, (fileAt d i).safe⟩) (List.getElem?_set_self hil2) (List.getElem?_set_self hil) rfl (((fileAt d i).recs.take left).length : Int)
        have hnn : n3 = ((fileAt d i).recs.take left).length := by
          obtain ⟨A', c', he, -, -⟩ := own_reads' ho3
          injection he
        rw [List.set_set, List.set_set, ← hnn] at hP2
        have hfin : crashD d i s.k s.torn = ⟨d.files.set i ⟨(fileAt d i).no, (fileAt d i).recs.take left, (n3 : Nat)⟩, d.list⟩ := by rw [crashD, Hk.out, ← hnn]
        have hP3 := hfin ▸ hP2
        go_ret
        exact ⟨_, _, _, rfl, hP3, ((Kp.of hB3 hh).setCell (p := ⟨g, i * 3 + 1, none⟩) hg0 (Hd.out.later hB3).mineF _).setCell (p := ⟨g, i * 3 + 2, none⟩) hg0 (mine_set (Hd.out.later hB3).mineF _ _) _⟩
      · have htf : s.torn = false := by simpa using ht
        go_wp2_with (first
          | ((with_reducible refine (Hcp.out _ (below_step hB2 hbX)).mono ?_); rintro e w3 ⟨v3, rfl, ho3, hb3⟩; obtain ⟨A3, n3, c3, rfl⟩ := R_slice' ho3; have hB3 := below_step (below_step hB2 hbX) hb3; have x3 := (HS2.out.later (below_step hbX hb3)).cell 3 _ rfl; have y1 : w3.cell? ⟨g, i * 3 + 1, none⟩ = _ := cell_keep hB3 Hg1.out; have u1 : w3.cell? ⟨g, i * 3 + 1, none⟩ = _ := cell_keep hB3 Hg1.out; have u2 : w3.cell? ⟨g, i * 3 + 2, none⟩ = _ := cell_keep hB3 Hg2.out; have uf1 : w3.frozen? ⟨g, i * 3 + 1, none⟩ = false := ((bcell hB3).2 g _ hgl).trans (Hgf.out _); have uf2 : w3.frozen? ⟨g, i * 3 + 2, none⟩ = false := ((bcell hB3).2 g _ hgl).trans (Hgf.out _)))
        have hP := Hd.out.put_recs Hr.out Hf.out rfl (below_grown hB3 _) ⟨rno, A3, n3, c3, (fileAt d i).safe⟩ rfl rfl ((fileAt d i).recs.take left) (Kd.R_lower ho3 hh) (.inr fun k hk => (own_ty ho3 hk).1)
        have hil2 : i < rs.length := (List.getElem?_eq_some_iff.1 Hr.out).1
        have hP2 := hP.put_safe (i := i) (r := ⟨rno, A3, n3, c3, (fileAt d i).safe⟩) (f := ⟨(fileAt d i).no, (fileAt d i).recs.take left, (fileAt d i).safe⟩) (List.getElem?_set_self hil2) (List.getElem?_set_self hil) rfl (((fileAt d i).recs.take left).length : Int)
        have hnn : n3 = ((fileAt d i).recs.take left).length := by
          obtain ⟨A', c', he, -, -⟩ := own_reads' ho3
          injection he
        rw [List.set_set, List.set_set, ← hnn] at hP2
        have hfin : crashD d i s.k s.torn = ⟨d.files.set i ⟨(fileAt d i).no, (fileAt d i).recs.take left, (n3 : Nat)⟩, d.list⟩ := by rw [crashD, Hk.out, ← hnn]
        have hP3 := hfin ▸ hP2
        go_ret
        exact ⟨_, _, _, rfl, hP3, ((Kp.of hB3 hh).setCell (p := ⟨g, i * 3 + 1, none⟩) hg0 (Hd.out.later hB3).mineF _).setCell (p := ⟨g, i * 3 + 2, none⟩) hg0 (mine_set (Hd.out.later hB3).mineF _ _) _⟩
  · have hk4 : ((fileAt d i).recs.length : Int) - (fileAt d i).safe ≤ s.k := by simpa using hk3
    have Hk := Lib.hid (show keptOf (fileAt d i) s.k s.torn = (fileAt d i).recs.take left by rw [keptOf, Hleft.out, Hlw.out, if_neg (by omega), List.append_nil])
    obtain rfl := Hlw.out
    have htb : decide ((fileAt d i).recs.length < (fileAt d i).recs.length) = false := by simp
    have q1 : X.cell? ⟨g, i * 3 + 1, none⟩ = _ := cell_keep (below_step hB2 hbX) Hg1.out
    cases ht : s.torn
    all_goals
      go_wp2_with (first
        | ((with_reducible refine (Hcp.out _ (below_step hB2 hbX)).mono ?_); rintro e w3 ⟨v3, rfl, ho3, hb3⟩; obtain ⟨A3, n3, c3, rfl⟩ := R_slice' ho3; have hB3 := below_step (below_step hB2 hbX) hb3; have x3 := (HS2.out.later (below_step hbX hb3)).cell 3 _ rfl; have y1 : w3.cell? ⟨g, i * 3 + 1, none⟩ = _ := cell_keep hB3 Hg1.out; have u1 : w3.cell? ⟨g, i * 3 + 1, none⟩ = _ := cell_keep hB3 Hg1.out; have u2 : w3.cell? ⟨g, i * 3 + 2, none⟩ = _ := cell_keep hB3 Hg2.out; have uf1 : w3.frozen? ⟨g, i * 3 + 1, none⟩ = false := ((bcell hB3).2 g _ hgl).trans (Hgf.out _); have uf2 : w3.frozen? ⟨g, i * 3 + 2, none⟩ = false := ((bcell hB3).2 g _ hgl).trans (Hgf.out _)))
      have hP := Hd.out.put_recs Hr.out Hf.out rfl (below_grown hB3 _) ⟨rno, A3, n3, c3, (fileAt d i).safe⟩ rfl rfl ((fileAt d i).recs.take (fileAt d i).recs.length) (Kd.R_lower ho3 hh) (.inr fun k hk => (own_ty ho3 hk).1)
      have hil2 : i < rs.length := (List.getElem?_eq_some_iff.1 Hr.out).1
      have hP2 := hP.put_safe (i := i) (r := ⟨rno, A3, n3, c3, (fileAt d i).safe⟩) (f := ⟨(fileAt d i).no, (fileAt d i).recs.take (fileAt d i).recs.length, (fileAt d i).safe⟩) (List.getElem?_set_self hil2) (List.getElem?_set_self hil) rfl (((fileAt d i).recs.take (fileAt d i).recs.length).length : Int)
      have hnn : n3 = ((fileAt d i).recs.take (fileAt d i).recs.length).length := by
        obtain ⟨A', c', he, -, -⟩ := own_reads' ho3
        injection he
      rw [List.set_set, List.set_set, ← hnn] at hP2
      have hfin : crashD d i s.k s.torn = ⟨d.files.set i ⟨(fileAt d i).no, (fileAt d i).recs.take (fileAt d i).recs.length, (n3 : Nat)⟩, d.list⟩ := by rw [crashD, Hk.out, ← hnn]
      have hP3 := hfin ▸ hP2
      go_ret
      exact ⟨_, _, _, rfl, hP3, ((Kp.of hB3 hh).setCell (p := ⟨g, i * 3 + 1, none⟩) hg0 (Hd.out.later hB3).mineF _).setCell (p := ⟨g, i * 3 + 2, none⟩) hg0 (mine_set (Hd.out.later hB3).mineF _ _) _⟩
end Go.Proofs.Ytfmojgdomficlaa
set_option linter.unusedVariables false
set_option linter.unusedSimpArgs false
/-! A device is opened again. -/
namespace Go.Proofs.Ytfmojgdomficlaa
open Go.RowKit Go.Shelf Go.Proofs.YtfmojgdomficlaaW.PrintWords
attribute [local go_sem] Oper.semAt_some

theorem DOwn.keeps {h0 : Nat} {w w' : World} {b : Nat} {vf vl : Value} {rs : List RF} {d : SDisk} (h : DOwn h0 w b vf vl rs d) (hk : KeepsCells w w') : DOwn h0 w' b vf vl rs d :=
  have st : ∀ (k : Nat) (cells : Array Value) (e : Nat), w.heap[k]? = some (.cells cells e (0, 0)) → w'.heap[k]? = w.heap[k]? := fun k cells e hc => (hk k _ hc rfl).trans hc.symm
  ⟨h.hb, (st b _ _ h.box).trans h.box, own_step flat_rf h.files (fun k hk => by obtain ⟨_, _, hc⟩ := own_ty h.files hk; exact st k _ _ hc), h.rows.step (fun r hr k hk => by obtain ⟨_, _, hc⟩ := h.rows.typed hr hk; exact st k _ _ hc), own_step flat_int h.list (fun k hk => by obtain ⟨_, _, hc⟩ := own_ty h.list hk; exact st k _ _ hc)⟩
def openedF (f : SFile) : SFile := ⟨f.no, goodOf f.recs, (goodOf f.recs).length⟩
def partF (fs : List SFile) (k : Nat) : List SFile := (fs.take k).map openedF ++ fs.drop k
def reopenD (d : SDisk) : SDisk := ⟨(d.files.filter fun f => d.list.contains f.no).map openedF, d.list⟩
theorem partF_len (fs : List SFile) (k : Nat) : (partF fs k).length = fs.length := by simp [partF]; omega
theorem partF_get (fs : List SFile) (k : Nat) : (partF fs k)[k]? = fs[k]? := by
  unfold partF
  rcases Nat.lt_or_ge k fs.length with h | h
  · rw [List.getElem?_append_right (by simp; omega)]
    simp [Nat.min_eq_left (Nat.le_of_lt h)]
  · rw [List.getElem?_eq_none (by simp; omega), List.getElem?_eq_none h]
theorem partF_succ (fs : List SFile) (k : Nat) (f : SFile) (h : fs[k]? = some f) : (partF fs k).set k (openedF f) = partF fs (k + 1) := by
  obtain ⟨hk, rfl⟩ := List.getElem?_eq_some_iff.1 h
  unfold partF
  have hl : ((fs.take k).map openedF).length = k := by simp; omega
  rw [List.set_append_right _ _ (by omega), hl, Nat.sub_self, List.drop_eq_getElem_cons hk, List.set_cons_zero, List.take_succ_eq_append_getElem hk, List.map_append, List.append_assoc]
  rfl
set_option maxRecDepth 100000 in
set_option maxHeartbeats 8000000 in
theorem seg_reopen (d : SDisk) (h0 : Nat) (b : Nat) (vf vl : Value) (rs : List RF) (s : SStep) (w : World) (hd : DOwn h0 w b vf vl rs d) (hs : SmallD d) (hh : h0 ≤ w.heap.size) :
    Calls Try.prog 72 #[.pointer (some ⟨b, 0, none⟩), .agg #[.int .i64 s.do_, .int .i64 s.k, .int .i64 s.stop, .bool s.torn, .int .i64 s.news.do_, .int .i64 s.news.src, .int .i64 s.news.id, .int .i64 s.news.ver, .int .i64 s.news.body.at_, .int .i64 s.news.body.key, .int .i64 s.news.body.val]] w (DiskPost h0 b true (reopenD d) w) := by
  obtain ⟨hs1, hs2, hs3⟩ := hs
  obtain ⟨Af, cf, Al, cl, rfl, rfl, hda⟩ := hd.reads
  have hcl := hda.capl
  have Hd := Lib.hid hd
  have Hda := Lib.hid hda
  have hbw := World.block_lt_of_cell? w _ hda.c1
  clear hd hda
  refine (callsIn_wide (n := 3)).1 ?_
  refine callsIn_of_wp_marks Try.func72 rfl trivial ?_ rfl
  refine wpIn_wide.2 ?_
  simp only [Try.ntmps72, List.size_toArray, List.length_cons, List.length_nil, Nat.reduceAdd, Nat.reduceSub, Array.replicate_succ, Array.replicate_zero, List.push_toArray, List.append_toArray, List.nil_append, List.cons_append]
  have hq : ∀ W, Below w.heap.size w W → ∀ pd, W.cell? ⟨pd, 0, none⟩ = some (.pointer (some ⟨b, 0, none⟩)) → ∀ (r : RF) (W' : World), r ∈ rs → Below W.heap.size W W' → Calls Try.prog 92 #[.agg #[.int .i64 r.no, r.v, .int .i64 r.safe], .pointer (some ⟨pd, 0, none⟩)] W' fun e W'' => e = .returned (.bool (!d.list.contains r.no)) ∧ Below W'.heap.size W' W'' := fun W hW pd hpd r W' _ hW' =>
    seg_reopen1 d b _ _ cf cl r.no r.safe r.A r.n r.c pd W' (Hda.out.later (below_step hW hW')) (cell_keep hW' hpd)
  have Hq := Lib.hid hq
  clear hq
  have hBa : Below w.heap.size w ((w.alloc (.cells #[.pointer (some ⟨b, 0, none⟩)] 77)).alloc (.cells #[.int .i64 s.do_, .int .i64 s.k, .int .i64 s.stop, .bool s.torn, .int .i64 s.news.do_, .int .i64 s.news.src, .int .i64 s.news.id, .int .i64 s.news.ver, .int .i64 s.news.body.at_, .int .i64 s.news.body.key, .int .i64 s.news.body.val] 58)) := below_alloc (below_alloc (Below.refl _ _) _) _
  have hPa : Cells ((w.alloc (.cells #[.pointer (some ⟨b, 0, none⟩)] 77)).alloc (.cells #[.int .i64 s.do_, .int .i64 s.k, .int .i64 s.stop, .bool s.torn, .int .i64 s.news.do_, .int .i64 s.news.src, .int .i64 s.news.id, .int .i64 s.news.ver, .int .i64 s.news.body.at_, .int .i64 s.news.body.key, .int .i64 s.news.body.val] 58)) w.heap.size #[.pointer (some ⟨b, 0, none⟩)] 77 := (Cells.new w _ _).later (below_alloc (Below.refl _ _) _)
  have Heg : Hid (∀ args W, (callFunc 92 args).run Try.prog W = .ok (.enter 92 args) W) := Lib.hid (enters_of Try.func92 (by kernel_rfl) rfl)
  have HPa := Lib.hid hPa
  have HBa := Lib.hid hBa
  clear hPa hBa
  go_wp2_with (first
    | ((with_reducible refine (seg_drop1 d h0 b _ _ rs 92 (.pointer (some ⟨w.heap.size, 0, none⟩)) undef (fun no => d.list.contains no) _ (Hd.out.later HBa.out) hs1 (Nat.le_trans hh HBa.out.size) Heg.out (Hq.out _ HBa.out _ (HPa.out.cell 0 _ rfl))).mono ?_); rintro e w2 ⟨vf2, rs2, rfl, hD2, hb2, hg2⟩; have hp2 := HPa.out.kept hg2 (by simp; omega); have hp20 := hp2.cell 0 _ rfl; have hb20 := hD2.box.cell 0 _ rfl; obtain ⟨A1, cf1, hv2⟩ := Kd.R_slice hD2.files; subst hv2))
  have hlen2 : rs2.length = (dropD d fun no => d.list.contains no).files.length := hD2.rows.len
  have hsm2 : rs2.length ≤ 100000 := by
    rw [hlen2]
    have := List.length_filter_le (fun f : SFile => d.list.contains f.no) d.files
    simp only [dropD]
    omega
  have hfm : ∀ f ∈ (dropD d fun no => d.list.contains no).files, f.recs.length ≤ 100000 := fun f hf => hs3 f (List.mem_filter.1 hf).1
  have hB2 : Kp h0 w w2 := (Kp.of HBa.out hh).grown hb2 hg2 (fun k hk => by cases hk; exact (Hd.out.later HBa.out).mineB)
  have hww : w.heap.size < w2.heap.size := by have := hb2.size; simp at this; omega
  have Hfin := Lib.hid (show reopenD d = ⟨partF (dropD d fun no => d.list.contains no).files rs2.length, d.list⟩ by
    rw [hlen2, partF, List.take_length, List.drop_length, List.append_nil]; rfl)
  have HD2 : DOwn h0 w2 b (.slice A1 rs2.length cf1) (.slice Al d.list.length cl) rs2 ⟨partF (dropD d fun no => d.list.contains no).files 0, d.list⟩ := hD2
  generalize hfs : (dropD d fun no => d.list.contains no).files = fs at *
  have Hlen2 := Lib.hid hlen2
  have Hfm := Lib.hid hfm
  clear hfm hlen2 hfs hD2 hp20 hb20 Hq Hd Hda HPa HBa hg2 Heg
  refine wp_loop (fun a wr => ∃ (k : Nat) (u5 u6 u7 u19 u20 u21 u22 u23 u24 u25 u26 u27 u28 u29 u30 u31 u37 u38 u39 u40 u41 u42 u43 u44 u45 u46 : Value) (Ds : List Nat) (rsk : List RF), a = { tmps := #[.pointer (some ⟨b, 0, none⟩), .agg #[.int .i64 s.do_, .int .i64 s.k, .int .i64 s.stop, .bool s.torn, .int .i64 s.news.do_, .int .i64 s.news.src, .int .i64 s.news.id, .int .i64 s.news.ver, .int .i64 s.news.body.at_, .int .i64 s.news.body.key, .int .i64 s.news.body.val], .pointer (some ⟨w.heap.size, 0, none⟩), .pointer (some ⟨w.heap.size + 1, 0, none⟩), .bool false, u5, u6, u7, undef, .pointer (some ⟨b, 0, none⟩), .func (.func 92) #[] #[.pointer (some ⟨w.heap.size, 0, none⟩)], .tuple #[], .pointer (some ⟨b, 0, none⟩), .pointer (some ⟨b, 0, none⟩), .pointer (some ⟨b, 0, none⟩), .pointer (some ⟨b, 0, none⟩), .slice A1 rs2.length cf1, .int .i64 rs2.length, .int .i64 k, u19, u20, u21, u22, u23, u24, u25, u26, u27, u28, u29, u30, u31, undef, undef, undef, undef, undef, u37, u38, u39, u40, u41, u42, u43, u44, u45, u46], defers := markDefers Ds } ∧ k ≤ rs2.length ∧ DOwn h0 wr b (.slice A1 rs2.length cf1) (.slice Al d.list.length cl) rsk ⟨partF fs k, d.list⟩ ∧ Cells wr w.heap.size #[.pointer (some ⟨b, 0, none⟩)] 77 ∧ Kp h0 w wr ∧ Marks h0 wr Ds ∧ w.heap.size < wr.heap.size) (fun a _ => rs2.length - (intOf (a.tmps.getD 18 undef)).toNat) ?_ ?_
  · exact ⟨0, undef, undef, undef, undef, undef, undef, undef, undef, undef, undef, undef, undef, undef, undef, undef, undef, undef, undef, undef, undef, undef, undef, undef, undef, undef, undef, [], rs2, rfl, Nat.zero_le _, HD2, hp2, hB2, Marks.none _ _, hww⟩
  · clear HD2 hp2 hb2 hB2
    rintro a wr ⟨k, u5, u6, u7, u19, u20, u21, u22, u23, u24, u25, u26, u27, u28, u29, u30, u31, u37, u38, u39, u40, u41, u42, u43, u44, u45, u46, Ds, rsk, rfl, hk, hDk, hpk, hBk, hmk, hsz⟩
    have hpb := hpk.cell 0 _ rfl
    have hbb := hDk.box.cell 0 _ rfl
    have hlk := hDk.rows.len
    simp only [partF_len] at hlk
    by_cases hlt : k < rs2.length
    · obtain ⟨f, hf⟩ : ∃ f, fs[k]? = some f := ⟨_, List.getElem?_eq_getElem (by rw [← Hlen2.out]; exact hlt)⟩
      obtain ⟨r, hr⟩ : ∃ r, rsk[k]? = some r := ⟨_, List.getElem?_eq_getElem (by rw [hlk, ← Hlen2.out]; exact hlt)⟩
      obtain ⟨r1, r2, r3⟩ := hDk.rows.rel k r f hr (by simp only [partF_get]; exact hf)
      obtain ⟨g, cfk, hvf, hg0, hgl, g0, g1, g2, gf⟩ := hDk.cells hr
      injection hvf with e1 e2 e3
      subst e1
      obtain ⟨rno, rA, rn, rc, rsafe⟩ := r
      obtain ⟨A', c', he, hlc, hrow⟩ := own_reads' r3
      obtain rfl : rn = f.recs.length := by injection he
      obtain rfl : rc = c' := by injection he
      obtain rfl : rA = A' := by injection he
      have hfl := Hfm.out f (List.mem_of_getElem? hf)
      have q0 : wr.cell? ⟨g, k * 3, none⟩ = some (.int .i64 rno) := g0
      have q1 : wr.cell? ⟨g, k * 3 + 1, none⟩ = some (.slice rA f.recs.length rc) := g1
      have q2 : wr.cell? ⟨g, k * 3 + 2, none⟩ = some (.int .i64 rsafe) := g2
      have Hq1 := Lib.hid q1
      have Hq2 := Lib.hid q2
      have Hgf := Lib.hid gf
      have HDk := Lib.hid hDk
      have Hr := Lib.hid hr
      have Hf := Lib.hid hf
      have Hrow := Lib.hid hrow
      have hngl : wr.heap.size ≠ g := by omega
      have hnb : wr.heap.size ≠ b := fun e => by have := hDk.box.lt; omega
      have hnp : wr.heap.size ≠ w.heap.size := by omega
      clear hDk hr hf hrow he r1 r2 r3 g0 g1 g2 gf e2 e3 hlk
      go_wp2_with (first
        | (go_at_call 58; refine (seg_right _ _ _ _ _ _).mono ?_; rintro e w3 ⟨rfl, rfl⟩))
      have hb3 : Below wr.heap.size wr ((wr.alloc (.cells #[.slice none 0 0] 60)).alloc (.cells #[.int .i64 rno, .slice rA f.recs.length rc, .int .i64 rsafe] 62)) := below_alloc (below_alloc (Below.refl _ _) _) _
      have hz3 : ((wr.alloc (.cells #[.slice none 0 0] 60)).alloc (.cells #[.int .i64 rno, .slice rA f.recs.length rc, .int .i64 rsafe] 62)).heap.size = wr.heap.size + 2 := by simp
      have hc3 : Cells ((wr.alloc (.cells #[.slice none 0 0] 60)).alloc (.cells #[.int .i64 rno, .slice rA f.recs.length rc, .int .i64 rsafe] 62)) (wr.heap.size + 1) #[.int .i64 rno, .slice rA f.recs.length rc, .int .i64 rsafe] 62 := by have := Cells.new (wr.alloc (.cells #[.slice none 0 0] 60)) #[.int .i64 rno, .slice rA f.recs.length rc, .int .i64 rsafe] 62; simpa using this
      have hk3 : Cells ((wr.alloc (.cells #[.slice none 0 0] 60)).alloc (.cells #[.int .i64 rno, .slice rA f.recs.length rc, .int .i64 rsafe] 62)) wr.heap.size #[.slice none 0 0] 60 := by have := (Cells.new wr #[.slice none 0 0] 60).later (below_alloc (Below.refl _ _) (.cells #[.int .i64 rno, .slice rA f.recs.length rc, .int .i64 rsafe] 62)); simpa using this
      generalize ((wr.alloc (.cells #[.slice none 0 0] 60)).alloc (.cells #[.int .i64 rno, .slice rA f.recs.length rc, .int .i64 rsafe] 62)) = w3 at hb3 hz3 hc3 hk3 ⊢
      have hs3' : wr.heap.size + 1 < w3.heap.size := by omega
      clear hz3
      refine (wpIn_wide (n := 3)).1 ?_
      refine wpIn_rangeFunc_ownH rfl (by omega) (gf := 82) (lb := #[.pointer (some ⟨wr.heap.size + 1, 0, none⟩)]) rfl trivial (enters_of Try.func82 (by kernel_rfl) rfl)
        (right_stops 2 (wr.heap.size + 1) rA rc f.recs wr w3 Hrow.out hlc hb3 (hc3.cell 1 _ rfl)) belowK_t (belowK_b (by omega)) (Below.refl _ _) (fun _ => rfl)
        (fun pre W => ∃ v, Cells W wr.heap.size #[v] 60 ∧ Own kSRec 83 W (wr.heap.size + 1) v pre ∧ Below wr.heap.size wr W ∧ Marks h0 W Ds ∧ w3.heap.size ≤ W.heap.size)
        (fun _ _ _ => False)
        (fun s W W' row ⟨v, h1, h2, h3, h4, h5⟩ hg hr => ⟨v, h1.turned hg (fun r e => (hr r e).2), R_turned h2 hg (fun r e => (hr r e).2), h3.grown hg (by omega) (fun r e => by have := (hr r e).1; omega), h4.turned (B := w3.heap.size) (fun D hD => Nat.lt_of_lt_of_le (hmk.lt D hD) hb3.size) hg (fun r e => (hr r e).1), Nat.le_trans h5 hg.size⟩)
        (fun _ _ _ _ _ hs _ _ => hs)
        ⟨_, hk3, Kd.R_nil _ _ _ _ _, hb3, hmk.below hb3, Nat.le_refl _⟩
        (fun x a' W => ∃ Bx, wr.heap.size < Bx ∧ Cells W Bx #[.int .i64 x.news.do_, .int .i64 x.news.src, .int .i64 x.news.id, .int .i64 x.news.ver, .int .i64 x.news.body.at_, .int .i64 x.news.body.key, .int .i64 x.news.body.val, .int .i64 x.sum] 83 ∧ a' = { tmps := #[.pointer (some ⟨b, 0, none⟩), .agg #[.int .i64 s.do_, .int .i64 s.k, .int .i64 s.stop, .bool s.torn, .int .i64 s.news.do_, .int .i64 s.news.src, .int .i64 s.news.id, .int .i64 s.news.ver, .int .i64 s.news.body.at_, .int .i64 s.news.body.key, .int .i64 s.news.body.val], .pointer (some ⟨w.heap.size, 0, none⟩), .pointer (some ⟨w.heap.size + 1, 0, none⟩), .bool false, .int .i64 k, .pointer (some ⟨g, k * 3, none⟩), .pointer (some ⟨wr.heap.size, 0, none⟩), .pointer (some ⟨Bx, 0, none⟩), .pointer (some ⟨b, 0, none⟩), .func (.func 92) #[] #[.pointer (some ⟨w.heap.size, 0, none⟩)], .tuple #[], .pointer (some ⟨b, 0, none⟩), .pointer (some ⟨b, 0, none⟩), .pointer (some ⟨b, 0, none⟩), .pointer (some ⟨b, 0, none⟩), .slice (some ⟨g, 0, none⟩) rs2.length cf1, .int .i64 rs2.length, .int .i64 k, .bool true, .int .i64 k, .pointer (some ⟨b, 0, none⟩), .pointer (some ⟨b, 0, none⟩), .pointer (some ⟨b, 0, none⟩), .pointer (some ⟨b, 0, none⟩), .slice (some ⟨g, 0, none⟩) rs2.length cf1, .int .i64 k, .pointer (some ⟨g, k * 3, none⟩), .pointer (some ⟨g, k * 3, none⟩), .pointer (some ⟨g, k * 3, none⟩), .agg #[.int .i64 rno, .slice rA f.recs.length rc, .int .i64 rsafe], .func (.func 82) #[] #[.pointer (some ⟨wr.heap.size + 1, 0, none⟩)], .agg #[.int .i64 x.news.do_, .int .i64 x.news.src, .int .i64 x.news.id, .int .i64 x.news.ver, .int .i64 x.news.body.at_, .int .i64 x.news.body.key, .int .i64 x.news.body.val, .int .i64 x.sum], undef, undef, undef, undef, u37, u38, u39, u40, u41, u42, u43, u44, u45, u46], defers := [] })
        (fun x a' s W W' row ⟨Bx, h1, h2, h3⟩ hg hr => ⟨Bx, h1, h2.turned hg (fun r e => (hr r e).2), h3⟩)
        ?assign ?body ?done ?stop
      case assign =>
        rintro l pre x W K ⟨v, h1, h2, h3, h4, h5⟩ hK
        gi_wp2
        exact hK _ _ ((KeepsOthers.alloc _ _).from _) ((Below.refl _ W).alloc h3.size _) ⟨v, h1.later ((Below.refl _ W).alloc (Nat.le_refl _) _), Kd.R_below h2 ((Below.refl _ W).alloc (Nat.le_refl _) _), h3.alloc h3.size _, h4.below ((Below.refl _ W).alloc (Nat.le_refl _) _), by simp; omega⟩ ⟨W.heap.size, by omega, Cells.new _ _ _, rfl⟩
      case body =>
        rintro l pre x a' W hl - ⟨v, h1, h2, h3, h4, h5⟩ ⟨Bx, hBx, h6, rfl⟩ hpl
        have k0 := h6.cell 0 _ rfl
        have k1 := h6.cell 1 _ rfl
        have k2 := h6.cell 2 _ rfl
        have k3 := h6.cell 3 _ rfl
        have k4 := h6.cell 4 _ rfl
        have k5 := h6.cell 5 _ rfl
        have k6 := h6.cell 6 _ rfl
        have k7 := h6.cell 7 _ rfl
        have kv := h1.cell 0 _ rfl
        have kf := h1.frozen 0
        have hgl' := goodOf_len f.recs
        gi_wp2_with (gi_at_builtin; refine R_appendIn kSRec (wr.heap.size + 1) (w0 := W) rfl _ _ _ 83 (.agg #[.int .i64 0, .int .i64 0, .int .i64 0, .int .i64 0, .int .i64 0, .int .i64 0, .int .i64 0, .int .i64 0]) 64 rfl (by kernel_rfl) (by kernel_rfl) (by kernel_rfl) (by decide) (by omega) v pre x [.int .i64 x.news.do_, .int .i64 x.news.src, .int .i64 x.news.id, .int .i64 x.news.ver, .int .i64 x.news.body.at_, .int .i64 x.news.body.key, .int .i64 x.news.body.val, .int .i64 x.sum] rfl rfl (fun w => kSRec_mkM w _ _ x) h2 (Below.refl _ _) (by omega) (by omega) ?_; intro v1 w1 r1 r2 r3 r4; obtain ⟨A5, n5, cc5, rfl⟩ := R_slice' r1; have h1' := h1.kept r3 (R_ne_lt h2 (Nat.lt_succ_self _)); have kv1 := h1'.cell 0 _ rfl; have kf1 := h1'.frozen 0)
        have hk1 : KeepsOthers W (w1.setCell ⟨wr.heap.size, 0, none⟩ (.slice A5 n5 cc5)) := (R_keeps h2 r3).trans (KeepsOthers.setCell _ _ _)
        have hb1 : Below wr.heap.size W (w1.setCell ⟨wr.heap.size, 0, none⟩ (.slice A5 n5 cc5)) := (Below.mono r2 (Nat.le_succ _)).setCell (p := ⟨wr.heap.size, 0, none⟩) (Nat.le_refl _) _
        exact ⟨hk1.from _, hb1, ⟨_, h1'.set _, R_set_low r1 (p := ⟨wr.heap.size, 0, none⟩) (Nat.lt_succ_self _) (.slice A5 n5 cc5), h3.trans hb1, h4.others hk1, Nat.le_trans h5 hb1.size⟩⟩
      case done =>
        rintro D ys W hD rfl ⟨v, h1, h2, h3, h4, h5⟩ hK
        obtain ⟨A5, n5, cc5, rfl⟩ := R_slice' h2
        have hM := h4.cons (fun E hE => Nat.lt_of_lt_of_le (hmk.lt E hE) hb3.size) hD (by have := hBk.size; omega) hK
        have kv := h1.cell 0 _ rfl
        have y1 : W.cell? ⟨g, k * 3 + 1, none⟩ = some (.slice rA f.recs.length rc) := cell_keep h3 Hq1.out
        have y2 : W.cell? ⟨g, k * 3 + 2, none⟩ = some (.int .i64 rsafe) := cell_keep h3 Hq2.out
        have yf1 : W.frozen? ⟨g, k * 3 + 1, none⟩ = false := ((bcell h3).2 g _ hgl).trans (Hgf.out _)
        have yf2 : W.frozen? ⟨g, k * 3 + 2, none⟩ = false := ((bcell h3).2 g _ hgl).trans (Hgf.out _)
        go_wp2
        have hkl2 : k < rsk.length := (List.getElem?_eq_some_iff.1 Hr.out).1
        have hP := HDk.out.put_recs Hr.out (f := f) (by simp only [partF_get]; exact Hf.out) rfl (below_grown h3 _) ⟨rno, A5, n5, cc5, rsafe⟩ rfl rfl (goodOf f.recs) (Kd.R_lower h2 (by have := hBk.size; omega)) (.inr fun q hq => by have := (own_ty h2 hq).1; omega)
        have hkp : k < (partF fs k).length := by rw [partF_len]; exact (List.getElem?_eq_some_iff.1 Hf.out).1
        have hP2 := hP.put_safe (i := k) (r := ⟨rno, A5, n5, cc5, rsafe⟩) (f := ⟨f.no, goodOf f.recs, f.safe⟩) (List.getElem?_set_self hkl2) (List.getElem?_set_self hkp) rfl (n5 : Int)
        have hnn : n5 = (goodOf f.recs).length := by
          obtain ⟨A', c', he, -, -⟩ := own_reads' h2
          injection he
        have hpart : (partF fs k).set k ⟨f.no, goodOf f.recs, (n5 : Int)⟩ = partF fs (k + 1) := by rw [hnn]; exact partF_succ fs k f Hf.out
        simp only [List.set_set, hpart] at hP2
        have hbf : Kp h0 w ((W.setCell ⟨g, k * 3 + 1, none⟩ (.slice A5 n5 cc5)).setCell ⟨g, k * 3 + 2, none⟩ (.int .i64 n5)) := ((hBk.later h3 (by have := hBk.size; omega)).setCell (p := ⟨g, k * 3 + 1, none⟩) hg0 (HDk.out.later h3).mineF _).setCell (p := ⟨g, k * 3 + 2, none⟩) hg0 (mine_set (HDk.out.later h3).mineF _ _) _
        have hkf : KeepsOthers W ((W.setCell ⟨g, k * 3 + 1, none⟩ (.slice A5 n5 cc5)).setCell ⟨g, k * 3 + 2, none⟩ (.int .i64 n5)) := (KeepsOthers.setCell _ _ _).trans (KeepsOthers.setCell _ _ _)
        have hng : w.heap.size ≠ g := by
          obtain ⟨_, hc⟩ := HDk.out.file_ne (g := g) rfl
          exact ty_ne (show wr.heap[w.heap.size]? = _ from hpk) hc (by decide)
        have hpf := ((hpk.later h3).far (p := ⟨g, k * 3 + 1, none⟩) hng (.slice A5 n5 cc5)).far (p := ⟨g, k * 3 + 2, none⟩) hng (.int .i64 n5)
        exact ⟨⟨k + 1, _, _, _, _, _, _, _, _, _, _, _, _, _, _, _, _, _, _, _, _, _, _, _, _, _, _, D :: Ds, _, rfl, by omega, hP2, hpf, hbf, hM.others hkf, by have := hkf.size; have := h3.size; omega⟩, by simp [intOf]; omega⟩
      case stop =>
        rintro D c pre W _ _ h _
        exact h.elim
    · have hkl : k = rs2.length := by omega
      have hfinal : DOwn h0 wr b (.slice A1 rs2.length cf1) (.slice Al d.list.length cl) rsk (reopenD d) := by rw [Hfin.out, show partF fs rs2.length = partF fs k by rw [hkl]]; exact hDk
      clear hkl
      go_wp2
      refine leaves_marks (n0 := h0) (v := .bool true) (fun w' => by rw [results_tmp (t := 4) rfl]; rfl) Ds wr hmk (by have := hBk.size; omega) ?_
      intro w' hb' hk'
      exact ⟨_, _, _, rfl, hfinal.keeps hk', ⟨hBk.below.trans hb', fun k cs t hc hm => (hk' k _ ((hBk.ty k cs t hc hm).trans hc) rfl).trans (show w.heap[k]? = some (.cells cs t (0, 0)) from hc).symm⟩⟩
end Go.Proofs.Ytfmojgdomficlaa
set_option linter.unusedVariables false
/-! What has been heard: of each event the news that counts, and the marks. Plain. -/
namespace Go.Proofs.Ytfmojgdomficlaa
abbrev zeroNews : News := ⟨0, 0, 0, 0, ⟨0, 0, 0⟩⟩
def keyOf (n : News) : Key := ⟨n.src, n.id⟩
/-- One more is heard: events. -/
def hearL (L : List (Key × News)) (n : News) : List (Key × News) :=
  match aget (keyOf n) L with
  | none => aput (keyOf n) n L
  | some x => if x.ver < n.ver then aput (keyOf n) n L else L
/-- .. and marks. -/
def hearM (M : List Int) (n : News) : List Int := M.set n.src.toNat (max (M.getD n.src.toNat 0) n.body.at_)
def hear (s : List (Key × News) × List Int) (n : News) : List (Key × News) × List Int := if n.do_ = 3 then (s.1, hearM s.2 n) else (hearL s.1 n, s.2)
def hearAll (l : List News) : List (Key × News) × List Int := l.foldl hear ([], [0, 0, 0, 0])
theorem hearAll_snoc (l : List News) (n : News) : hearAll (l ++ [n]) = hear (hearAll l) n := by simp [hearAll]
/-- By which numbers a least list is sorted, behind the source. -/
def kN1 (n : News) : Int := if n.do_ = 3 then 1 else 0
def kN2 (n : News) : Int := if n.do_ = 3 then 0 else n.id
def mapV {κ α β : Type} (f : α → β) (L : List (κ × α)) : List (κ × β) := L.map fun p => (p.1, f p.2)
theorem aget_mapV {κ α β : Type} [DecidableEq κ] (f : α → β) (k : κ) : ∀ L : List (κ × α), aget k (mapV f L) = (aget k L).map f
  | [] => rfl
  | (a, v) :: L => by
    show aget k ((a, f v) :: mapV f L) = _
    simp only [aget]
    split
    · rfl
    · exact aget_mapV f k L
theorem aput_mapV {κ α β : Type} [DecidableEq κ] (f : α → β) (k : κ) (x : α) : ∀ L : List (κ × α), aput k (f x) (mapV f L) = mapV f (aput k x L)
  | [] => rfl
  | (a, v) :: L => by
    show aput k (f x) ((a, f v) :: mapV f L) = _
    simp only [aput]
    split
    · rfl
    · show (a, f v) :: aput k (f x) (mapV f L) = _
      rw [aput_mapV f k x L]
      rfl
end Go.Proofs.Ytfmojgdomficlaa
set_option linter.unusedVariables false
/-! Merged records: plain. -/
namespace Go.Proofs.Ytfmojgdomficlaa

theorem aget_aput' {κ ν : Type} [DecidableEq κ] (k k' : κ) (v : ν) : ∀ L : List (κ × ν), aget k' (aput k v L) = if k' = k then some v else aget k' L
  | [] => by
    simp only [aput, aget]
  | (a, x) :: L => by
    simp only [aput]
    by_cases h : k = a
    · subst h
      simp only [if_true, aget]
      split <;> rfl
    · simp only [if_neg h, aget]
      by_cases h2 : k' = a
      · have : k' ≠ k := fun e => h (by rw [← e, h2])
        simp [h2, Ne.symm h]
      · simp only [if_neg h2, aget_aput' k k' v L]
/-- Of the first records, the first one of an event with the greatest version. -/
def evBest (l : List SRec) (k : Key) : Nat → Option Nat
  | 0 => none
  | m + 1 => match l[m]? with
    | none => evBest l k m
    | some r => if r.news.do_ ≠ 3 ∧ keyOf r.news = k then (match evBest l k m with
        | none => some m
        | some b => if (l[b]?.getD default).news.ver < r.news.ver then some m else some b) else evBest l k m
/-- .. and of marks of a source. -/
def mkBest (l : List SRec) (s : Int) : Nat → Option Nat
  | 0 => none
  | m + 1 => match l[m]? with
    | none => mkBest l s m
    | some r => if r.news.do_ = 3 ∧ r.news.src = s then (match mkBest l s m with
        | none => some m
        | some b => if (l[b]?.getD default).news.body.at_ < r.news.body.at_ then some m else some b) else mkBest l s m
theorem evBest_lt (l : List SRec) (k : Key) : ∀ m b, evBest l k m = some b → b < m
  | 0, b, h => by cases h
  | m + 1, b, h => by
    simp only [evBest] at h
    split at h
    · have := evBest_lt l k m b h; omega
    · split at h
      · split at h
        · cases h; omega
        · rename_i x hx
          split at h
          · cases h; omega
          · cases h; have := evBest_lt l k m b hx; omega
      · have := evBest_lt l k m b h; omega
theorem mkBest_lt (l : List SRec) (s : Int) : ∀ m b, mkBest l s m = some b → b < m
  | 0, b, h => by cases h
  | m + 1, b, h => by
    simp only [mkBest] at h
    split at h
    · have := mkBest_lt l s m b h; omega
    · split at h
      · split at h
        · cases h; omega
        · rename_i x hx
          split at h
          · cases h; omega
          · cases h; have := mkBest_lt l s m b hx; omega
      · have := mkBest_lt l s m b h; omega
/-- The number that is kept for a record. -/
def keptI (l : List SRec) (r : SRec) : Nat := if r.news.do_ = 3 then (mkBest l r.news.src l.length).getD 0 else (evBest l (keyOf r.news) l.length).getD 0
def mergedUpto (l : List SRec) : Nat → List SRec
  | 0 => []
  | m + 1 => match l[m]? with
    | none => mergedUpto l m
    | some r => if keptI l r = m then mergedUpto l m ++ [r] else mergedUpto l m
def mergedOf (l : List SRec) : List SRec := mergedUpto l l.length
theorem mergedUpto_len (l : List SRec) : ∀ m, (mergedUpto l m).length ≤ m
  | 0 => by simp [mergedUpto]
  | m + 1 => by
    have := mergedUpto_len l m
    simp only [mergedUpto]
    split
    · omega
    · split
      · simp; omega
      · omega
/-- What the maps hold. -/
def EvMap (l : List SRec) (m : Nat) (E : List (Key × Int)) : Prop := ∀ k, aget k E = (evBest l k m).map fun i => (i : Int)
def MkMap (l : List SRec) (m : Nat) (M : List (Int × Int)) : Prop := ∀ s, aget s M = (mkBest l s m).map fun i => (i : Int)
theorem EvMap.mark {l : List SRec} {m : Nat} {E : List (Key × Int)} (h : EvMap l m E) {r : SRec} (hr : l[m]? = some r) (h3 : r.news.do_ = 3) : EvMap l (m + 1) E := fun k => by
  rw [h k]; simp only [evBest, hr]; rw [if_neg (by simp [h3])]
theorem MkMap.said {l : List SRec} {m : Nat} {M : List (Int × Int)} (h : MkMap l m M) {r : SRec} (hr : l[m]? = some r) (h3 : r.news.do_ ≠ 3) : MkMap l (m + 1) M := fun s => by
  rw [h s]; simp only [mkBest, hr]; rw [if_neg (by simp [h3])]
theorem EvMap.new {l : List SRec} {m : Nat} {E : List (Key × Int)} (h : EvMap l m E) {r : SRec} (hr : l[m]? = some r) (h3 : r.news.do_ ≠ 3) (hw : evBest l (keyOf r.news) m = none ∨ ∃ b, evBest l (keyOf r.news) m = some b ∧ (l[b]?.getD default).news.ver < r.news.ver) : EvMap l (m + 1) (aput (keyOf r.news) (m : Int) E) := fun k => by
  rw [aget_aput']
  simp only [evBest, hr]
  by_cases hk : keyOf r.news = k
  · subst hk
    rw [if_pos rfl, if_pos ⟨h3, rfl⟩]
    rcases hw with e | ⟨b, e, hv⟩
    · rw [e]; rfl
    · rw [e]; simp only [if_pos hv]; rfl
  · rw [if_neg (Ne.symm hk), if_neg (fun ⟨_, e⟩ => hk e), h k]
theorem EvMap.old {l : List SRec} {m : Nat} {E : List (Key × Int)} (h : EvMap l m E) {r : SRec} (hr : l[m]? = some r) {b : Nat} (e : evBest l (keyOf r.news) m = some b) (hv : ¬ (l[b]?.getD default).news.ver < r.news.ver) : EvMap l (m + 1) E := fun k => by
  rw [h k]
  simp only [evBest, hr]
  by_cases hk : r.news.do_ ≠ 3 ∧ keyOf r.news = k
  · rw [if_pos hk]
    obtain ⟨_, rfl⟩ := hk
    rw [e]; simp only [if_neg hv]
  · rw [if_neg hk]
theorem MkMap.new {l : List SRec} {m : Nat} {M : List (Int × Int)} (h : MkMap l m M) {r : SRec} (hr : l[m]? = some r) (h3 : r.news.do_ = 3) (hw : mkBest l r.news.src m = none ∨ ∃ b, mkBest l r.news.src m = some b ∧ (l[b]?.getD default).news.body.at_ < r.news.body.at_) : MkMap l (m + 1) (aput r.news.src (m : Int) M) := fun s => by
  rw [aget_aput']
  simp only [mkBest, hr]
  by_cases hk : r.news.src = s
  · subst hk
    rw [if_pos rfl, if_pos ⟨h3, rfl⟩]
    rcases hw with e | ⟨b, e, hv⟩
    · rw [e]; rfl
    · rw [e]; simp only [if_pos hv]; rfl
  · rw [if_neg (Ne.symm hk), if_neg (fun ⟨_, e⟩ => hk e), h s]
theorem MkMap.old {l : List SRec} {m : Nat} {M : List (Int × Int)} (h : MkMap l m M) {r : SRec} (hr : l[m]? = some r) {b : Nat} (e : mkBest l r.news.src m = some b) (hv : ¬ (l[b]?.getD default).news.body.at_ < r.news.body.at_) : MkMap l (m + 1) M := fun s => by
  rw [h s]
  simp only [mkBest, hr]
  by_cases hk : r.news.do_ = 3 ∧ r.news.src = s
  · rw [if_pos hk]
    obtain ⟨_, rfl⟩ := hk
    rw [e]; simp only [if_neg hv]
  · rw [if_neg hk]
theorem EvMap.nil (l : List SRec) : EvMap l 0 [] := fun _ => rfl
theorem MkMap.nil (l : List SRec) : MkMap l 0 [] := fun _ => rfl
end Go.Proofs.Ytfmojgdomficlaa
