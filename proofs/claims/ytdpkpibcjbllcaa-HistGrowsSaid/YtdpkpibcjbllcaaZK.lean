/-
  Texts of one hand, laid together: LateR.
-/
import Derived.Test.YtdpkpibcjbllcaaZJ
import Derived.Test.YtdpkpibcjbllcaaZN
set_option linter.unusedVariables false
set_option linter.unusedSimpArgs false
/-! The reference's late news. -/
namespace Go.Proofs.Ytdpkpibcjbllcaa
open Go.RowKit Go.Proofs.YtdpkpibcjbllcaaW.PrintWords

theorem ref_MarksOf' (l : List News) (A : Option Addr) (c k : Nat) (srcs : Int) (w : World) (hk : l.length = k) (hr : NewsRow w A k l) (hc : k ≤ c) (h1 : 1 ≤ srcs) (h4 : srcs ≤ 4) (hsrc : ∀ n ∈ l, 0 ≤ n.src ∧ n.src < srcs) :
    Calls Try.prog 47 #[.slice A k c, .int .i64 srcs] w fun e w' => ∃ g c', e = .returned (.slice (some ⟨g, 0, none⟩) srcs.toNat c') ∧ Own (Kd.int .i64) 3 w' w.heap.size (.slice (some ⟨g, 0, none⟩) srcs.toNat c') (marksOf l srcs) ∧ Below w.heap.size w w' := by
  subst hk
  refine (ref_MarksOf l A c srcs w hr hc h1 h4 hsrc).mono ?_
  rintro e w' ⟨v, rfl, hO, hb⟩
  have hl := marksOf_len l srcs h4
  obtain ⟨g, cap, rfl, _⟩ := Kd.R_form hO (by omega)
  rw [hl] at hO ⊢
  exact ⟨g, cap, rfl, hO, hb⟩
theorem ref_StepOf' (l : List News) (A : Option Addr) (c k : Nat) (n : News) (w : World) (hk : l.length = k) (hr : NewsRow w A k l) (hc : k ≤ c) (hl : k ≤ 100) :
    Calls Try.prog 52 #[.slice A k c, .agg #[.int .i64 n.do_, .int .i64 n.src, .int .i64 n.id, .int .i64 n.ver, .int .i64 n.body.at_, .int .i64 n.body.key, .int .i64 n.body.val]] w fun e w' => ∃ v1 v2, e = .returned (.tuple #[v1, v2]) ∧ Own kEvent 49 w' w.heap.size v1 (stepOf (hearAll l).1 n).1 ∧ Own kEvent 49 w' w.heap.size v2 (stepOf (hearAll l).1 n).2 ∧ Below w.heap.size w w' := by
  subst hk
  exact ref_StepOf l A c n w hr hc hl
theorem marks_cell {l : List News} {srcs src : Int} {g c base : Nat} {w : World} (h4 : srcs ≤ 4) (h0 : 0 ≤ src) (hs : src < srcs) (h : Own (Kd.int .i64) 3 w base (.slice (some ⟨g, 0, none⟩) srcs.toNat c) (marksOf l srcs)) : w.cell? ⟨g, src.toNat, none⟩ = some (.int .i64 ((hearAll l).2.getD src.toNat 0)) := by
  refine own_ints h src.toNat _ ?_
  unfold marksOf
  rw [List.getElem?_take_of_lt (by omega), List.getD_eq_getElem?_getD]
  have : src.toNat < (hearAll l).2.length := by rw [hearAll_mlen]; omega
  rw [List.getElem?_eq_getElem this]
  rfl
theorem ref_MarksOf2 (l : List News) (A : Option Addr) (c k N : Nat) (w : World) (hk : l.length = k) (hr : NewsRow w A k l) (hc : k ≤ c) (h1 : 1 ≤ N) (h4 : N ≤ 4) (src : Int) (h0 : 0 ≤ src) (hs : src < (N : Int)) (hsrc : ∀ n ∈ l, 0 ≤ n.src ∧ n.src < (N : Int)) :
    Calls Try.prog 47 #[.slice A k c, .int .i64 (N : Int)] w fun e w' => ∃ g c', e = .returned (.slice (some ⟨g, 0, none⟩) N c') ∧ w'.cell? ⟨g, src.toNat, none⟩ = some (.int .i64 ((hearAll l).2.getD src.toNat 0)) ∧ Below w.heap.size w w' := by
  refine (ref_MarksOf' l A c k N w hk hr hc (by omega) (by omega) hsrc).mono ?_
  rintro e w' ⟨g, c', rfl, hO, hb⟩
  exact ⟨g, c', rfl, marks_cell (by omega) h0 hs hO, hb⟩
abbrev LE (W1 W : World) (ad ae : Addr) (k j : Nat) (n : News) (x : Event) (l : List News) : Prop := W.cell? ⟨(ad.add (k * 7)).block, (ad.add (k * 7)).off + 1, none⟩ = some (.int .i64 n.src) ∧ W.cell? ⟨(ae.add (j * 5)).block, (ae.add (j * 5)).off + 2, none⟩ = some (.int .i64 x.body.at_) ∧ NewsRow W (some ad) k (l.take k) ∧ Below W1.heap.size W1 W
abbrev LS (W1 W : World) (ad : Addr) (k : Nat) (n : News) (l : List News) : Prop := W.cell? (ad.add (k * 7)) = some (.int .i64 n.do_) ∧ W.cell? ⟨(ad.add (k * 7)).block, (ad.add (k * 7)).off + 1, none⟩ = some (.int .i64 n.src) ∧ W.cell? ⟨(ad.add (k * 7)).block, (ad.add (k * 7)).off + 2, none⟩ = some (.int .i64 n.id) ∧ W.cell? ⟨(ad.add (k * 7)).block, (ad.add (k * 7)).off + 3, none⟩ = some (.int .i64 n.ver) ∧ W.cell? ⟨(ad.add (k * 7)).block, (ad.add (k * 7)).off + 4, none⟩ = some (.int .i64 n.body.at_) ∧ W.cell? ⟨(ad.add (k * 7)).block, (ad.add (k * 7)).off + 5, none⟩ = some (.int .i64 n.body.key) ∧ W.cell? ⟨(ad.add (k * 7)).block, (ad.add (k * 7)).off + 6, none⟩ = some (.int .i64 n.body.val) ∧ NewsRow W (some ad) k (l.take k) ∧ Below W1.heap.size W1 W
theorem cell_laterA {w wr : World} (hB : Below w.heap.size w wr) {a : Addr} {v : Value} (h : w.cell? a = some v) : wr.cell? a = some v := (hB.cell (World.block_lt_of_cell? w _ h)).trans h
theorem LS.step {W1 W W' : World} {ad : Addr} {k : Nat} {n : News} {l : List News} (h : LS W1 W ad k n l) (hb : Below W.heap.size W W') : LS W1 W' ad k n l := by
  obtain ⟨h0, h1, h2, h3, h4, h5, h6, h8, h9⟩ := h
  exact ⟨cell_laterA hb h0, cell_laterA hb h1, cell_laterA hb h2, cell_laterA hb h3, cell_laterA hb h4, cell_laterA hb h5, cell_laterA hb h6, news_later h8 hb, below_step h9 hb⟩
theorem LE.step {W1 W W' : World} {ad ae : Addr} {k j : Nat} {n : News} {x : Event} {l : List News} (h : LE W1 W ad ae k j n x l) (hb : Below W.heap.size W W') : LE W1 W' ad ae k j n x l := by
  obtain ⟨h0, h1, h8, h9⟩ := h
  exact ⟨cell_laterA hb h0, cell_laterA hb h1, news_later h8 hb, below_step h9 hb⟩
theorem news_takeK {w : World} {A : Option Addr} {n : Nat} {l : List News} (h : NewsRow w A n l) (m : Nat) (hm : m ≤ n) : NewsRow w A m (l.take m) := by
  obtain ⟨h1, h2, h3⟩ := h
  refine ⟨by rw [List.length_take]; omega, by omega, fun hp => ?_⟩
  obtain ⟨ad, e, hc⟩ := h3 (by omega)
  refine ⟨ad, e, fun j p hj => ?_⟩
  have hjm : j < m := by
    have := (List.getElem?_eq_some_iff.1 hj).1
    rw [List.length_take] at this; omega
  rw [List.getElem?_take_of_lt hjm] at hj
  exact hc j p hj
set_option maxRecDepth 100000 in
set_option maxHeartbeats 4000000 in
theorem ref_LateOfN (l : List News) (A : Option Addr) (c N : Nat) (w : World) (hr : NewsRow w A l.length l) (hc : l.length ≤ c) (hlen : l.length ≤ 60) (h1 : 1 ≤ N) (h4 : N ≤ 4) (hsrc : ∀ n ∈ l, 0 ≤ n.src ∧ n.src < (N : Int)) :
    Calls Try.prog 57 #[.slice A l.length c, .int .i64 (N : Int)] w (OwnPost (Kd.int .i64) 3 w (lateOf l)) := by
  have Hr := Lib.hid hr
  have Hsrc := Lib.hid hsrc
  clear hr hsrc
  go_enter Try.func57, Try.ntmps57
  go_wp2
  go_loopw [5, 6] (fun v i wr => ∃ k : Nat, k ≤ l.length ∧ i = .int .i64 k ∧ Own (Kd.int .i64) 3 wr w.heap.size v (lateOf (l.take k)) ∧ Below w.heap.size w wr) (fun _ i _ => l.length - (intOf i).toNat)
  case atStart => exact ⟨0, Nat.zero_le _, rfl, Kd.R_nil _ _ _ _ _, Below.refl _ _⟩
  case round =>
    obtain ⟨k, hk, rfl, hO, hB⟩ := hrel
    by_cases hlt : k < l.length
    · obtain ⟨n, ad, hd, htk, hget, rfl, c0, c1, c2, c3, c4, c5, c6⟩ := news_at (news_later Hr.out hB) k hlt
      have hn := Hsrc.out n (List.mem_of_getElem? hget)
      obtain ⟨hn0, hns⟩ := hn
      have hlk : (l.take k).length = k := by rw [List.length_take]; omega
      have Hlk := Lib.hid hlk
      have hsk : Hid (∀ x ∈ l.take k, 0 ≤ x.src ∧ x.src < (N : Int)) := Lib.hid (fun x hx => Hsrc.out x (List.mem_of_mem_take hx))
      have hln := lateOf_snoc (l.take k) n
      rw [← htk, hlk] at hln
      have Hln := Lib.hid hln
      have hlo : (lateOf (l.take k)).length ≤ 60 := by
        have := lateOf_len (l.take k)
        omega
      have hrk := Lib.hid (news_takeK (news_later Hr.out hB) k (by omega))
      have hkc : (k : Int) ≤ (c : Int) := by omega
      have hkc' : k ≤ c := by omega
      have hlb : lateB (hearAll (l.take k)) n = ((stepOf (hearAll (l.take k)).1 n).1 ++ (stepOf (hearAll (l.take k)).1 n).2).any (ahE ((hearAll (l.take k)).2.getD n.src.toNat 0)) := rfl
      have Hlb := Lib.hid hlb
      obtain ⟨hp1, hp2⟩ := stepOf_len (hearAll (l.take k)).1 n
      have HO := Lib.hid hO
      clear hO hd htk hget hlk hln hlb
      go_upto_region 5 with (fail)
      go_cut [7, 8] (fun v7 v8 wc => Aside (Own kEvent 49 wc wr.heap.size v7 (stepOf (hearAll (l.take k)).1 n).1) ∧ Aside (Own kEvent 49 wc wr.heap.size v8 (stepOf (hearAll (l.take k)).1 n).2) ∧ Aside (Below wr.heap.size wr wc))
      case first =>
        go_region_held3 (fun W => LS wr W ad k n l)
          (first | assumption | exact LS.step (by assumption) (by assumption) | exact LS.step ⟨c0, c1, c2, c3, c4, c5, c6, hrk.out, Below.refl _ _⟩ (by repeat (first | exact Below.refl _ _ | assumption | apply below_alloc | apply below_drew1)))
          (first
            | (go_at_call 52; (with_reducible refine (ref_StepOf' (l.take k) (some ad) c k n _ Hlk.out (by go_split_ands; assumption) hkc' (by omega)).mono ?_); rintro e w3 ⟨v1, v2, rfl, hO1, hO2, hb3⟩; have hbw : Below wr.heap.size wr _ := (by go_split_ands; assumption))
            | fail)
        all_goals go_wp2
        all_goals go_meet
        all_goals (case rel => exact ⟨⟨own_lower hO1 hbw.size⟩, ⟨own_lower hO2 hbw.size⟩, ⟨below_step hbw hb3⟩⟩)
      case rest =>
        obtain ⟨hO7, hO8, hBw⟩ := hcut
        obtain ⟨p, hp⟩ : ∃ p, stepOf (hearAll (l.take k)).1 n = p := ⟨_, rfl⟩
        rw [hp] at hO7 hO8 hp1 hp2
        have Hp := Lib.hid hp
        clear hp
        obtain ⟨A7, q7, rfl, _, hr7⟩ := own_reads' hO7.out
        obtain ⟨A8, q8, rfl, _, hr8⟩ := own_reads' hO8.out
        have Hr7 := Lib.hid hr7
        have Hr8 := Lib.hid hr8
        have hrk' := Lib.hid (news_later hrk.out hBw.out)
        have d0 := cell_laterA hBw.out c0
        have d1 := cell_laterA hBw.out c1
        have HOc := Lib.hid (own_later HO.out hBw.out)
        have hBc := below_trans hB (below_lower hBw.out hB.size)
        obtain ⟨ab, hab⟩ : ∃ ab, p.1 ++ p.2 = ab := ⟨_, rfl⟩
        have Hab := Lib.hid hab
        have habl : ab.length ≤ 2 := by rw [← hab, List.length_append]; omega
        clear hO7 hO8 hr7 hr8 c0 c1 c2 c3 c4 c5 c6 hBw HO hrk hB hab
        go_upto_region 7 with (first
          | (at_builtin; refine Kd.R_append_rows kEvent (w0 := wc) wc.heap.size rfl (.const (.slice none 0 0)) (.tmp 29) 23 49 (.agg #[(.int .i64 0), (.int .i64 0), (.int .i64 0), (.int .i64 0), (.int .i64 0)]) 40 rfl Try.underlying23 info_event rfl (by decide) (by omega) (.slice none 0 0) [] p.1 _ _ _ (fun _ => True) (fun _ => False) rfl rfl ?aO ?aR (fun _ _ h => h) (fun _ h => h.elim) ?aF ?aB ?aS ?aL ?_; (case aO => exact Kd.R_nil _ _ _ _ _); (case aR => exact Hr7.out); (case aF => exact (fun _ _ => trivial)); (case aB => exact Below.refl _ _); (case aS => exact Nat.le_refl _); (case aL => (rw [List.length_nil]; omega)); intro v9 w9 ho9 hb9 hg9 hat9; rw [List.nil_append] at ho9; have hb9' := below_nil hg9)
          | (at_builtin; refine Kd.R_append_rows kEvent (w0 := wc) wc.heap.size rfl (.tmp 30) (.tmp 31) 23 49 (.agg #[(.int .i64 0), (.int .i64 0), (.int .i64 0), (.int .i64 0), (.int .i64 0)]) 40 rfl Try.underlying23 info_event rfl (by decide) (by omega) _ p.1 p.2 _ _ _ (fun _ => True) (fun _ => False) rfl rfl ?aO ?aR (fun _ _ h => h) (fun _ h => h.elim) ?aF ?aB ?aS ?aL ?_; (case aO => exact ho9); (case aR => exact (Kd.C_below Hr8.out hb9')); (case aF => exact (fun _ _ => trivial)); (case aB => exact hb9); (case aS => exact hb9.size); (case aL => omega); intro v10 w10 ho10 hb10 hg10 hat10; rw [Hab.out] at ho10; obtain ⟨A9, q9, rfl, _, hr9⟩ := own_reads' ho10; have Hr9 := Lib.hid hr9; clear hr9 ho10 hat10 hg10))
        have hrk9 := Lib.hid (news_later hrk'.out hb10)
        replace d0 := cell_laterA hb10 d0
        replace d1 := cell_laterA hb10 d1
        have HO10 := Lib.hid (own_later HOc.out hb10)
        have hB10 := below_trans hBc (below_lower hb10 hBc.size)
        clear HOc hBc hrk' Hr7 Hr8 hb9 hb9' ho9 hg9 hat9 hb10
        generalize hmk : (hearAll (l.take k)).2.getD n.src.toNat 0 = mk at *
        have Hmk := Lib.hid hmk
        clear hmk
        go_wp2
        go_loopw [10, 11] (fun v i wr2 => ∃ j : Nat, j ≤ ab.length ∧ i = .int .i64 j ∧ v = .bool ((ab.take j).any (ahE mk)) ∧ Below w10.heap.size w10 wr2) (fun _ i _ => ab.length - (intOf i).toNat)
        case atStart => exact ⟨0, Nat.zero_le _, rfl, rfl, Below.refl _ _⟩
        case round =>
          obtain ⟨j, hj, rfl, rfl, hB2⟩ := hrel
          by_cases hjl : j < ab.length
          · obtain ⟨x, ae, hd, htk, hget, rfl, e0, e1, e2, e3, e4⟩ := event_at (Kd.C_below Hr9.out hB2) j hjl
            have hany : (ab.take (j + 1)).any (ahE mk) = ((ab.take j).any (ahE mk) || ahE mk x) := by rw [htk, List.any_append]; simp
            have Hany := Lib.hid hany
            clear hd htk hget hany
            cases hacc : (ab.take j).any (ahE mk)
            · have HHacc := Lib.hid hacc
              clear hacc
              have s0 := cell_laterA hB2 d1
              have hrk2 := Lib.hid (news_later hrk9.out hB2)
              have hb2' := hB2
              go_upto_region 11 with (fail)
              refine wp_region_ord [(0, true), (1, true), (2, true), (3, true), (4, true), (5, true), (6, true), (7, true), (8, true), (9, true), (10, true), (11, true), (13, true), (14, true), (15, true), (16, true), (17, true), (12, false), (18, true), (19, true), (20, true), (21, true), (22, true)] (fun W => LE wr W ad ae k j n x l) (fun _ _ h hb => LE.step h hb) (by kernel_rfl) (by kernel_rfl) (LE.step ⟨s0, e2, hrk2.out, Below.refl _ _⟩ (below_drew1 (Below.refl _ _))) ?_
              simp only [pickOps, List.getElem?_cons_succ, List.getElem?_cons_zero]
              repeat (refine ord_calm (fun K hK => ?_); go_simp; first | (refine hK _ ?_; clear hK K) | (apply Exists.intro; refine ⟨fun W hC => ?_, hK _ ?_⟩; (first | rfl | (obtain ⟨⟨q0, q1, q2, q3⟩⟩ := hC; go_simp; done) | (obtain ⟨⟨q0, q1, q2, q3⟩⟩ := hC; go_simp; rfl)); clear hK K))
              refine ord_alone (by rfl) (fun W hW K hK => ?_)
              have hWr : NewsRow W (some ad) k (l.take k) := hW.out.2.2.1
              go_simp
              go_at_call 47
              refine (ref_MarksOf2 (l.take k) (some ad) c k N _ Hlk.out hWr hkc' h1 h4 n.src hn0 hns hsk.out).mono ?_
              rintro e w3 ⟨gm, cm, rfl, hmc, hb3⟩
              rw [Hmk.out] at hmc
              refine hK.out _ _ (fun W => (LE wr W ad ae k j n x l) ∧ W.cell? ⟨gm, n.src.toNat, none⟩ = some (.int .i64 mk)) (fun _ _ h hb => ⟨LE.step h.1 hb, cell_later' hb h.2⟩) (fun _ h => h.1) ⟨LE.step hW.out hb3, hmc⟩ ?_
              clear hK hWr hmc hW
              repeat (refine ord_calm (fun K hK => ?_); go_simp; first | (refine hK _ ?_; clear hK K) | (apply Exists.intro; refine ⟨fun W hC => ?_, hK _ ?_⟩; (first | rfl | (obtain ⟨⟨⟨q0, q1, q2, q3⟩, q4⟩⟩ := hC; go_simp; done) | (obtain ⟨⟨⟨q0, q1, q2, q3⟩, q4⟩⟩ := hC; go_simp; rfl)); clear hK K))
              refine ord_nil ?_
              intro W hC
              have HC := Lib.hid hC.out.1.2.2.2
              clear hC
              go_wp2
              exact ⟨⟨j + 1, by omega, by go_num, by rw [Hany.out, HHacc.out]; rfl, below_step hB2 HC.out⟩, by simp [intOf]; omega⟩
            · have HHacc := Lib.hid hacc
              clear hacc
              go_wp2
              go_quiet (fail)
              go_wp2
              exact ⟨⟨j + 1, by omega, by go_num, by rw [Hany.out, HHacc.out]; rfl, pw_below_drewN hB2 _⟩, by simp [intOf]; omega⟩
          · have hjk : ab.take j = ab := by rw [List.take_of_length_le (by omega)]
            rw [hjk]
            have hl2 : lateB (hearAll (l.take k)) n = ab.any (ahE mk) := by rw [Hlb.out, Hp.out, Hab.out]
            have Hl2 := Lib.hid hl2
            have hB3 := below_trans hB10 (below_lower hB2 hB10.size)
            have HO3 := Lib.hid (own_later HO10.out hB2)
            clear hjk hl2 d0 d1
            cases hlt2 : ab.any (ahE mk)
            · have hln' : lateOf (l.take (k + 1)) = lateOf (l.take k) := by rw [Hln.out, Hl2.out, hlt2]; simp [lateI]
              have Hln2 := Lib.hid hln'
              clear hln'
              go_wp2
              exact ⟨⟨k + 1, by omega, by go_num, by rw [Hln2.out]; exact HO3.out, hB3⟩, by simp [intOf]; omega⟩
            · have hln' : lateOf (l.take (k + 1)) = lateOf (l.take k) ++ [(k : Int)] := by rw [Hln.out, Hl2.out, hlt2]; simp [lateI]
              have Hln2 := Lib.hid hln'
              clear hln'
              go_wp2_with (at_builtin; refine Kd.R_append (Kd.int .i64) (w0 := w) w.heap.size rfl (.tmp 62) (.tmp 64) 27 3 (.int .i64 0) 8 rfl Try.underlying27 info_int rfl (by decide) (by omega) _ (lateOf (l.take k)) (k : Int) [.int .i64 (k : Int)] (fun _ => True) (fun _ => False) rfl rfl ?aP (fun _ hk => hk.elim) ?aF ?aO ?aB ?aS ?aL ?_; (case aP => rfl); (case aF => exact (fun _ _ => trivial)); (case aO => exact HO3.out); (case aB => exact hB3); (case aS => exact hB3.size); (case aL => omega); intro v9 w9 ho9 hb9 hg9 hat9)
              exact ⟨⟨k + 1, by omega, by go_num, by rw [Hln2.out]; exact ho9, hb9⟩, by simp [intOf]; omega⟩
    · have hkl : l.take k = l := by rw [List.take_of_length_le (by omega)]
      rw [hkl] at hO
      have HO := Lib.hid hO
      clear hO hkl
      go_wp2
      go_ret
      exact ⟨_, rfl, HO.out, hB⟩
end Go.Proofs.Ytdpkpibcjbllcaa
