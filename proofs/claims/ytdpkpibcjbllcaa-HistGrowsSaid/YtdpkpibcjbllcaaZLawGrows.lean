/-
  Texts of one hand, laid together: LawGrows.
-/
import Derived.Test.YtdpkpibcjbllcaaZU
import Derived.Test.YtdpkpibcjbllcaaZH
import Derived.Test.YtdpkpibcjbllcaaRows
import Derived.ProofKit
import Derived.OpenShut
import Derived.ShutString
import Derived.ChangeOld
import Derived.SizedLaws
set_option linter.unusedVariables false
set_option linter.unusedSimpArgs false
/-! HistGrows. -/
namespace Go.Proofs.Ytdpkpibcjbllcaa
open Go.RowKit Go.Proofs.YtdpkpibcjbllcaaW.PrintWords

theorem law_replace (was l is : List Event) (A B Ci : Option Addr) (ca cb ci : Nat) (w : World) (hr : EvRow w A l.length l) (hw : EvRow w B was.length was) (hwl : was.length ≤ 1) (hi : EvRow w Ci is.length is) (hl : l.length ≤ 100) (hil : is.length ≤ 100) :
    Calls Try.prog 30 #[.slice A l.length ca, .slice B was.length cb, .slice Ci is.length ci] w (OwnPost kEvent 49 w (dropE was l ++ is)) := by
  match was, hwl, hw with
  | [], _, _ => exact law_replace0 (fun l => l) rfl (fun _ => Nat.le_refl _) (fun _ _ => rfl) l is A B Ci ca cb ci w hr hi hl hil
  | [u], _, hw =>
    obtain ⟨x, ad, _, _, hx, rfl, c0, c1, c2, c3, c4⟩ := event_at hw 0 (by simp)
    obtain rfl : u = x := by simpa using hx
    have e : ad.add (0 * 5) = ad := by simp [Addr.add]
    rw [e] at c0 c1 c2 c3 c4
    exact law_replace1 u ad (fun l => l.filter (fun e => !eventEq e u)) rfl (fun l => List.length_filter_le _ l) (fun l x => by
      rw [List.filter_append]
      cases h : eventEq x u <;> simp [h]) l is A Ci ca cb ci w hr ⟨c0, c1, c2, c3, c4⟩ hi hl hil
def StepRow (p : List Event × List Event) (W : World) (e : Ending) (W' : World) : Prop := ∃ A1 c1 A2 c2, e = .returned (.tuple #[.slice A1 p.1.length c1, .slice A2 p.2.length c2, .int .i64 0]) ∧ EvRow W' A1 p.1.length p.1 ∧ EvRow W' A2 p.2.length p.2 ∧ Below W.heap.size W W'
def MarkRow (N : Nat) (M : List Int) (W : World) (e : Ending) (W' : World) : Prop := ∃ g c, e = .returned (.tuple #[.slice (some ⟨g, 0, none⟩) N c, .int .i64 0]) ∧ Own (Kd.int .i64) 3 W' W.heap.size (.slice (some ⟨g, 0, none⟩) N c) M ∧ Below W.heap.size W W'
/-- What the law's calls give. -/
structure GrowCalls (l : List News) (N : Nat) (A : Option Addr) (ca : Nat) (w : World) : Prop where
  fo : ∀ W, Below w.heap.size w W → Calls Try.prog 28 #[.slice A l.length ca, .int .i64 (N : Int)] W fun r W' => r = .returned (.bool true) ∧ Below W.heap.size W W'
  ke : ∀ W, Below w.heap.size w W → Calls Try.prog 26 #[.slice A l.length ca, .int .i64 (N : Int)] W fun r W' => r = .returned (.tuple #[.bool (decide ((lateOf l).length = 0)), .int .i64 0]) ∧ Below W.heap.size W W'
  m0 : ∀ W, Calls Try.prog 14 #[.slice none 0 0, .int .i64 (N : Int)] W (MarkRow N (marksOf [] N) W)
  mm : ∀ W k, k ≤ l.length → Below w.heap.size w W → Calls Try.prog 14 #[.slice A k ca, .int .i64 (N : Int)] W (MarkRow N (marksOf (l.take k) N) W)
  st : ∀ W k, k ≤ l.length → Below w.heap.size w W → Calls Try.prog 12 #[.slice A k ca, .int .i64 (N : Int)] W (OwnE kEvent 49 (stS (l.take k)) 0 W)
  sp : ∀ W k n, l[k]? = some n → Below w.heap.size w W → Calls Try.prog 19 #[.slice A k ca, .int .i64 (N : Int), .agg #[.int .i64 n.do_, .int .i64 n.src, .int .i64 n.id, .int .i64 n.ver, .int .i64 n.body.at_, .int .i64 n.body.key, .int .i64 n.body.val]] W (StepRow (stepOf (hearAll (l.take k)).1 n) W)
theorem mark_row (l : List News) (A : Option Addr) (c N : Nat) (w : World) (hr : NewsRow w A l.length l) (hc : l.length ≤ c) (hf : formedB l (N : Int) = true) : Calls Try.prog 14 #[.slice A l.length c, .int .i64 (N : Int)] w (MarkRow N (marksOf l N) w) := by
  refine (hist_Marks l A c N w hr hc).mono ?_
  rintro e w' ⟨v, rfl, hO, hb⟩
  rw [hf] at hO ⊢
  have hs := (plainB_src (formedB_plain hf)).1
  have hl := marksOf_len l N (by omega)
  simp only [if_true] at hO
  obtain ⟨g, cap, rfl, _⟩ := Kd.R_form hO (by rw [hl]; omega)
  rw [hl, Int.toNat_natCast] at hO ⊢
  exact ⟨g, cap, rfl, hO, hb⟩
theorem grow_calls {l : List News} {N : Nat} {A : Option Addr} {ca : Nat} {w : World} (hr : NewsRow w A l.length l) (hc : l.length ≤ ca) (hf : formedB l (N : Int) = true) : GrowCalls l N A ca w := by
  have hl60 := (plainB_src (formedB_plain hf)).2.1
  have hlen : ∀ k, k ≤ l.length → (l.take k).length = k := fun k hk => by rw [List.length_take]; omega
  have row : ∀ W k, k ≤ l.length → Below w.heap.size w W → NewsRow W A (l.take k).length (l.take k) := fun W k hk h => by
    rw [hlen k hk]
    exact news_takeK (news_later hr h) k hk
  refine ⟨fun W h => ?_, fun W h => ?_, fun W => ?_, fun W k hk h => ?_, fun W k hk h => ?_, fun W k n hn h => ?_⟩
  · have := ref_Formed l A ca N W (news_later hr h) hc
    rwa [hf] at this
  · have := hist_Keeps l A ca N W (news_later hr h) hc
    rw [hf] at this
    simpa using this
  · have h0 := formed_take hf 0
    rw [List.take_zero] at h0
    exact mark_row [] none 0 N W (Kd.C_nil _ _) (Nat.le_refl _) h0
  · have := mark_row (l.take k) A ca N W (row W k hk h) (by rw [hlen k hk]; omega) (formed_take hf k)
    rwa [hlen k hk] at this
  · have := hist_StandsF (l.take k) A ca N W (row W k hk h) (by rw [hlen k hk]; omega) (formed_take hf k) _ (stS_sort _)
    rwa [hlen k hk] at this
  · have hk : k < l.length := (List.getElem?_eq_some_iff.1 hn).1
    have := hist_Step (l.take k) A ca N n W (row W k (by omega) h) (by rw [hlen k (by omega)]; omega) (by rw [hlen k (by omega)]; omega)
    rw [hlen k (by omega)] at this
    refine this.mono ?_
    have htk : l.take k ++ [n] = l.take (k + 1) := by
      obtain ⟨_, e⟩ := List.getElem?_eq_some_iff.1 hn
      rw [List.take_succ_eq_append_getElem hk, e]
    rw [htk, formed_take hf (k + 1)]
    rintro e w' ⟨v1, v2, rfl, h1, h2, hb⟩
    obtain ⟨A1, c1, rfl, _, r1⟩ := own_reads' h1
    obtain ⟨A2, c2, rfl, _, r2⟩ := own_reads' h2
    exact ⟨A1, c1, A2, c2, rfl, r1, r2, hb⟩
theorem clean_snoc (l : List News) (n : News) (p : List Event) (mk : Int) (hp : lateB (hearAll l) n = p.any (ahE mk)) : decide ((lateOf (l ++ [n])).length = 0) = (decide ((lateOf l).length = 0) && !(p.any (ahE mk))) := by
  rw [lateOf_snoc, hp, List.length_append]
  cases p.any (ahE mk) <;> simp [lateI]
abbrev LG (W1 W : World) (ad ae : Addr) (gm k j : Nat) (n : News) (x : Event) (mk : Int) : Prop := W.cell? (ae.add (j * 5)) = some (.int .i64 x.src) ∧ W.cell? ⟨(ae.add (j * 5)).block, (ae.add (j * 5)).off + 1, none⟩ = some (.int .i64 x.id) ∧ W.cell? ⟨(ae.add (j * 5)).block, (ae.add (j * 5)).off + 2, none⟩ = some (.int .i64 x.body.at_) ∧ W.cell? ⟨(ad.add (k * 7)).block, (ad.add (k * 7)).off + 1, none⟩ = some (.int .i64 n.src) ∧ W.cell? ⟨(ad.add (k * 7)).block, (ad.add (k * 7)).off + 2, none⟩ = some (.int .i64 n.id) ∧ W.cell? ⟨gm, x.src.toNat, none⟩ = some (.int .i64 mk) ∧ Below W1.heap.size W1 W
theorem LG.step {W1 W W' : World} {ad ae : Addr} {gm k j : Nat} {n : News} {x : Event} {mk : Int} (h : LG W1 W ad ae gm k j n x mk) (hb : Below W.heap.size W W') : LG W1 W' ad ae gm k j n x mk := by
  obtain ⟨h0, h1, h2, h3, h4, h5, h9⟩ := h
  exact ⟨cell_laterA hb h0, cell_laterA hb h1, cell_laterA hb h2, cell_laterA hb h3, cell_laterA hb h4, cell_laterA hb h5, below_step h9 hb⟩
set_option maxRecDepth 100000 in
set_option maxHeartbeats 8000000 in
theorem grows_walk (l : List News) (N : Nat) (A : Option Addr) (ca : Nat) (w : World) (hr : NewsRow w A l.length l) (hc : l.length ≤ ca) (hl60 : l.length ≤ 60) (h1 : 1 ≤ N) (h4 : N ≤ 4) (hsrc : ∀ n ∈ l, 0 ≤ n.src ∧ n.src < (N : Int)) (h : GrowCalls l N A ca w) :
    Calls Try.prog 7 #[.slice A l.length ca, .int .i64 (N : Int)] w fun e w' => e = .returned (.bool true) ∧ Below w.heap.size w w' := by
  have Hr := Lib.hid hr
  have Hsrc := Lib.hid hsrc
  have H := Lib.hid h
  clear hr hsrc h
  generalize hkb : decide ((lateOf l).length = 0) = kb at *
  have Hkb := Lib.hid hkb
  have H' : Hid (∀ W, Below w.heap.size w W → Calls Try.prog 26 #[.slice A l.length ca, .int .i64 (N : Int)] W fun r W' => r = .returned (.tuple #[.bool kb, .int .i64 0]) ∧ Below W.heap.size W W') := Lib.hid (fun W hW => by have := H.out.ke W hW; rwa [hkb] at this)
  clear hkb
  go_enter Try.func7, Try.ntmps7
  go_upto_region 10 with (first
    | (go_at_call 28; (with_reducible refine (H.out.fo _ (Below.refl _ _)).mono ?_); rintro e w1 ⟨rfl, hb1⟩)
    | (go_at_call 26; (with_reducible refine (H'.out _ hb1).mono ?_); rintro e w2 ⟨rfl, hb2⟩; have hB2 := below_step hb1 hb2)
    | (go_at_call 14; (with_reducible refine (H.out.m0 _).mono ?_); rintro e w3 ⟨gm, cm, rfl, hO3, hb3⟩; have hB3 := below_step hB2 hb3; have HO3 := Lib.hid (own_lower hO3 hB2.size)))
  go_wp2
  go_loopw [7, 8, 9, 10] (fun vo vm vc i wr => ∃ (k gm cm : Nat), k ≤ l.length ∧ i = .int .i64 k ∧ vm = .slice (some ⟨gm, 0, none⟩) N cm ∧ vc = .bool (decide ((lateOf (l.take k)).length = 0)) ∧ Own kEvent 49 wr w.heap.size vo (stS (l.take k)) ∧ Own (Kd.int .i64) 3 wr w.heap.size (.slice (some ⟨gm, 0, none⟩) N cm) (marksOf (l.take k) N) ∧ Below w.heap.size w wr) (fun _ _ _ i _ => l.length - (intOf i).toNat)
  case atStart => exact ⟨0, gm, cm, Nat.zero_le _, rfl, rfl, rfl, Kd.R_nil _ _ _ _ _, HO3.out, hB3⟩
  case round =>
    obtain ⟨k, gm, cm, hk, rfl, rfl, rfl, hOo, hOm, hB⟩ := hrel
    by_cases hlt : k < l.length
    · obtain ⟨n, ad, hd, htk, hget, rfl, c0, c1, c2, c3, c4, c5, c6⟩ := news_at (news_later Hr.out hB) k hlt
      obtain ⟨hn0, hns⟩ := Hsrc.out n (List.mem_of_getElem? hget)
      have Hget := Lib.hid hget
      have hrk := Lib.hid (news_takeK (news_later Hr.out hB) k (by omega))
      have hga := grows_all (l.take k) n
      have hsk := step_keys (l.take k) n
      obtain ⟨hp1, hp2⟩ := stepOf_len (hearAll (l.take k)).1 n
      have hmc := marks_cell (l := l.take k) (src := n.src) (by omega) hn0 hns hOm
      have hcl := clean_snoc (l.take k) n ((stepOf (hearAll (l.take k)).1 n).1 ++ (stepOf (hearAll (l.take k)).1 n).2) ((hearAll (l.take k)).2.getD n.src.toNat 0) rfl
      have hsl := stS_len (l.take k)
      have hlk : (l.take k).length ≤ 60 := by rw [List.length_take]; omega
      rw [← htk] at hga hcl
      have hkc : (k : Int) ≤ (ca : Int) := by omega
      have hkc1 : (k : Int) + 1 ≤ (ca : Int) := by omega
      obtain ⟨Ao, co, rfl, hco, hro⟩ := own_reads' hOo
      have Hro := Lib.hid hro
      clear hOm hOo hro hd htk hget
      generalize (hearAll (l.take k)).2.getD n.src.toNat 0 = mk at *
      obtain ⟨p, hp⟩ : ∃ p, stepOf (hearAll (l.take k)).1 n = p := ⟨_, rfl⟩
      have Hsp : Hid (∀ W, Below w.heap.size w W → Calls Try.prog 19 #[.slice (some ad) k ca, .int .i64 (N : Int), .agg #[.int .i64 n.do_, .int .i64 n.src, .int .i64 n.id, .int .i64 n.ver, .int .i64 n.body.at_, .int .i64 n.body.key, .int .i64 n.body.val]] W (StepRow p W)) := Lib.hid (fun W hW => by have := H.out.sp W k n Hget.out hW; rwa [hp] at this)
      rw [hp] at hga hsk hp1 hp2 hcl
      clear hp
      obtain ⟨p1, p2⟩ := p
      simp only at hga hsk hp1 hp2 hcl
      obtain ⟨nw, hnw⟩ : ∃ nw, stS (l.take (k + 1)) = nw := ⟨_, rfl⟩
      have Hst : Hid (∀ W, Below w.heap.size w W → Calls Try.prog 12 #[.slice (some ad) (k + 1) ca, .int .i64 (N : Int)] W (OwnE kEvent 49 nw 0 W)) := Lib.hid (fun W hW => by have := H.out.st W (k + 1) (by omega) hW; rwa [hnw] at this)
      rw [hnw] at hga
      have Hnw := Lib.hid hnw
      have hod : (stS (l.take k)).length ≤ 100 := by omega
      clear hsl hlk hnw
      generalize stS (l.take k) = od at *
      obtain ⟨rp, hrp⟩ : ∃ rp, dropE p1 od ++ p2 = rp := ⟨_, rfl⟩
      have Hrp := Lib.hid hrp
      rw [hrp] at hga
      clear hrp
      obtain ⟨ab, hab⟩ : ∃ ab, p1 ++ p2 = ab := ⟨_, rfl⟩
      have Hab := Lib.hid hab
      have habl : ab.length ≤ 2 := by rw [← hab, List.length_append]; omega
      rw [hab] at hsk hcl
      have Hga := Lib.hid hga
      have Hsk := Lib.hid hsk
      have Hcl := Lib.hid hcl
      clear hga hsk hcl hab
      have hp1i : (p1.length : Int) ≤ 1 := by omega
      have hp2i : (p2.length : Int) ≤ 1 := by omega
      go_upto_region 14 with (fail)
      refine wp_region_ord [(0, true), (1, true), (2, true), (3, true), (4, true), (5, true), (6, true), (7, true), (8, false), (9, true), (10, true), (11, true), (12, true), (13, true), (14, true), (15, true)] (fun W => LS wr W ad k n l) (fun _ _ h hb => LS.step h hb) (by kernel_rfl) (by kernel_rfl) (LS.step ⟨c0, c1, c2, c3, c4, c5, c6, hrk.out, Below.refl _ _⟩ (below_drew1 (Below.refl _ _))) ?_
      simp only [pickOps, List.getElem?_cons_succ, List.getElem?_cons_zero]
      repeat (refine ord_calm (fun K hK => ?_); go_simp; first | (refine hK _ ?_; clear hK K) | (apply Exists.intro; refine ⟨fun W hC => ?_, hK _ ?_⟩; (first | rfl | (obtain ⟨⟨h0, h1, h2, h3, h4, h5, h6, h7, h8⟩⟩ := hC; go_simp; done) | (obtain ⟨⟨h0, h1, h2, h3, h4, h5, h6, h7, h8⟩⟩ := hC; go_simp; rfl)); clear hK K))
      refine ord_alone (by rfl) (fun W hW K hK => ?_)
      go_simp
      go_at_call 19
      refine (Hsp.out _ (below_trans hB (below_lower hW.out.2.2.2.2.2.2.2.2 hB.size))).mono ?_
      rintro e w3 ⟨A1, q1, A2, q2, rfl, hr1, hr2, hb3⟩
      refine hK.out _ _ (fun W => (LS wr W ad k n l) ∧ Below w3.heap.size w3 W) (fun _ _ h hb => ⟨LS.step h.1 hb, below_step h.2 hb⟩) (fun _ h => h.1) ⟨LS.step hW.out hb3, Below.refl _ _⟩ ?_
      clear hK hW
      repeat (refine ord_calm (fun K hK => ?_); go_simp; first | (refine hK _ ?_; clear hK K) | (apply Exists.intro; refine ⟨fun W hC => ?_, hK _ ?_⟩; (first | rfl | (obtain ⟨⟨⟨h0, h1, h2, h3, h4, h5, h6, h7, h8⟩, h9⟩⟩ := hC; go_simp; done) | (obtain ⟨⟨⟨h0, h1, h2, h3, h4, h5, h6, h7, h8⟩, h9⟩⟩ := hC; go_simp; rfl)); clear hK K))
      refine ord_nil ?_
      intro W14 hC
      have HLS := Lib.hid hC.out.1
      have hb14 := hC.out.2
      clear hC
      simp only at hr1 hr2
      have hBw : Below w.heap.size w W14 := below_trans hB (below_lower HLS.out.2.2.2.2.2.2.2.2 hB.size)
      have Hr1 := Lib.hid (Kd.C_below hr1 hb14)
      have Hr2 := Lib.hid (Kd.C_below hr2 hb14)
      have Hro1 := Lib.hid (Kd.C_below Hro.out HLS.out.2.2.2.2.2.2.2.2)
      have d1 := HLS.out.2.1
      have d2 := HLS.out.2.2.1
      have hmc1 := cell_laterA HLS.out.2.2.2.2.2.2.2.2 hmc
      clear hr1 hr2 hb14 hb3 Hro HLS hmc c0 c1 c2 c3 c4 c5 c6 hrk
      go_upto_region 16 with (go_at_call 12; (with_reducible refine (Hst.out _ hBw).mono ?_); rintro e w4 ⟨A14, c14, rfl, hO14, hb4⟩)
      have hB4 := below_trans hBw (below_lower hb4 hBw.size)
      have HO14 := Lib.hid (own_lower hO14 hBw.size)
      have Hr14 := Lib.hid (own_readsS hO14)
      have Hr11 := Lib.hid (Kd.C_below Hr1.out hb4)
      have Hr21 := Lib.hid (Kd.C_below Hr2.out hb4)
      have Hro2 := Lib.hid (Kd.C_below Hro1.out hb4)
      replace d1 := cell_laterA hb4 d1
      replace d2 := cell_laterA hb4 d2
      have hmc2 := cell_laterA hb4 hmc1
      clear hO14 Hr1 Hr2 Hro1 hmc1
      go_upto_region 18 with (first
        | (go_at_call 30; (with_reducible refine (law_replace p1 od p2 _ _ _ _ _ _ _ Hro2.out Hr11.out hp1 Hr21.out hod (by omega)).mono ?_); rintro e w5 ⟨v93, rfl, hO93, hb5⟩; rw [Hrp.out] at hO93; obtain ⟨A93, c93, rfl, _, hr93⟩ := own_reads' hO93; have Hr93 := Lib.hid hr93; have Hr142 := Lib.hid (Kd.C_below Hr14.out hb5); clear hO93 hr93)
        | (go_at_call 29; (with_reducible refine (law_sameSet nw _ _ _ _ _ _ Hr142.out Hr93.out Hga.out.1 Hga.out.2).mono ?_); rintro e w6 ⟨rfl, hb6⟩))
      have hb56 := below_step hb5 hb6
      have hB6 := below_trans hB4 (below_lower hb56 hB4.size)
      have HO146 := Lib.hid (own_later HO14.out hb56)
      have Hr12 := Lib.hid (Kd.C_below Hr11.out hb56)
      have Hr22 := Lib.hid (Kd.C_below Hr21.out hb56)
      replace d1 := cell_laterA hb56 d1
      replace d2 := cell_laterA hb56 d2
      have hmc3 := cell_laterA hb56 hmc2
      clear HO14 Hr11 Hr21 hmc2 Hro2 Hr14 Hr142 Hr93 hb5 hb6 hb56 Hga
      go_upto_region 19 with (first
        | (at_builtin; refine Kd.R_append_rows kEvent (w0 := w6) w6.heap.size rfl (.const (.slice none 0 0)) (.tmp 97) 23 49 (.agg #[(.int .i64 0), (.int .i64 0), (.int .i64 0), (.int .i64 0), (.int .i64 0)]) 40 rfl Try.underlying23 info_event rfl (by decide) (by omega) (.slice none 0 0) [] p1 _ _ _ (fun _ => True) (fun _ => False) rfl rfl ?aO ?aR (fun _ _ h => h) (fun _ h => h.elim) ?aF ?aB ?aS ?aL ?_; (case aO => exact Kd.R_nil _ _ _ _ _); (case aR => exact Hr12.out); (case aF => exact (fun _ _ => trivial)); (case aB => exact Below.refl _ _); (case aS => exact Nat.le_refl _); (case aL => (rw [List.length_nil]; omega)); intro v9 w9 ho9 hb9 hg9 hat9; rw [List.nil_append] at ho9; have hb9' := below_nil hg9)
        | (at_builtin; refine Kd.R_append_rows kEvent (w0 := w6) w6.heap.size rfl (.tmp 98) (.tmp 99) 23 49 (.agg #[(.int .i64 0), (.int .i64 0), (.int .i64 0), (.int .i64 0), (.int .i64 0)]) 40 rfl Try.underlying23 info_event rfl (by decide) (by omega) _ p1 p2 _ _ _ (fun _ => True) (fun _ => False) rfl rfl ?aO ?aR (fun _ _ h => h) (fun _ h => h.elim) ?aF ?aB ?aS ?aL ?_; (case aO => exact ho9); (case aR => exact (Kd.C_below Hr22.out hb9')); (case aF => exact (fun _ _ => trivial)); (case aB => exact hb9); (case aS => exact hb9.size); (case aL => omega); intro v10 w10 ho10 hb10 hg10 hat10; rw [Hab.out] at ho10; obtain ⟨A16, q16, rfl, _, hr16⟩ := own_reads' ho10; have Hr16 := Lib.hid hr16; clear hr16 ho10 hat10 hg10))
      have hB10 := below_trans hB6 (below_lower hb10 hB6.size)
      have HO1410 := Lib.hid (own_later HO146.out hb10)
      replace d1 := cell_laterA hb10 d1
      replace d2 := cell_laterA hb10 d2
      have hmc4 := cell_laterA hb10 hmc3
      clear HO146 Hr12 Hr22 hmc3 hb9 hb9' ho9 hg9 hat9 hb10
      generalize hlk0 : decide ((lateOf (l.take k)).length = 0) = c0 at *
      have Hlk0 := Lib.hid hlk0
      clear hlk0
      go_wp2
      go_loopw [9, 17] (fun vc i wr2 => ∃ j : Nat, j ≤ ab.length ∧ i = .int .i64 j ∧ vc = .bool (c0 && !((ab.take j).any (ahE mk))) ∧ Below w10.heap.size w10 wr2) (fun _ i _ => ab.length - (intOf i).toNat)
      case atStart => exact ⟨0, Nat.zero_le _, rfl, by rw [← Hlk0.out]; simp, Below.refl _ _⟩
      case round =>
        obtain ⟨j, hj, rfl, rfl, hB2⟩ := hrel
        by_cases hjl : j < ab.length
        · obtain ⟨x, ae, hd, htk, hget2, rfl, e0, e1, e2, e3, e4⟩ := event_at (Kd.C_below Hr16.out hB2) j hjl
          have hx := Hsk.out x (List.mem_of_getElem? hget2)
          have hany : (ab.take (j + 1)).any (ahE mk) = ((ab.take j).any (ahE mk) || ahE mk x) := by rw [htk, List.any_append]; simp
          have Hany := Lib.hid hany
          have z1 : (x.src != n.src) = false := by simp [hx.1]
          have z2 : (x.id != n.id) = false := by simp [hx.2]
          have x0 : (0 : Int) ≤ x.src := by rw [hx.1]; exact hn0
          have x1 : x.src < (N : Int) := by rw [hx.1]; exact hns
          have ho0 : (⟨gm, 0, none⟩ : Addr).add x.src.toNat = ⟨gm, x.src.toNat, none⟩ := addr0 _ _
          have HLG : Hid (LG wr wr ad ae gm k j n x mk) := Lib.hid ⟨e0, e1, e2, cell_laterA hB2 d1, cell_laterA hB2 d2, by rw [hx.1]; exact cell_laterA hB2 hmc4, Below.refl _ _⟩
          clear hd htk hget2 hany hx e0 e1 e2 e3 e4
          cases hacc : (c0 && !((ab.take j).any (ahE mk))) <;> cases hge : decide (mk ≤ x.body.at_)
          all_goals
            have Hacc := Lib.hid hacc
            have Hge := Lib.hid hge
            have hah : ahE mk x = !decide (mk ≤ x.body.at_) := by
              unfold ahE
              rw [Bool.eq_iff_iff]
              simp
            have Hah := Lib.hid hah
            clear hacc hah
            go_upto_region 22 with (fail)
            refine wp_region_ord [(0, true), (1, true), (2, true), (3, true), (4, true), (5, true), (6, true), (7, true), (8, true), (9, true), (10, true), (11, true), (12, true), (13, true), (14, true), (15, true), (16, true), (17, true), (18, true), (19, true), (20, true), (21, true), (22, true), (23, true)] (fun W => LG wr W ad ae gm k j n x mk) (fun _ _ h hb => LG.step h hb) (by kernel_rfl) (by kernel_rfl) (LG.step HLG.out (below_drew1 (Below.refl _ _))) ?_
            simp only [pickOps, List.getElem?_cons_succ, List.getElem?_cons_zero]
            repeat (refine ord_calm (fun K hK => ?_); go_simp; first | (refine hK _ ?_; clear hK K) | (apply Exists.intro; refine ⟨fun W hC => ?_, hK _ ?_⟩; (first | rfl | (obtain ⟨⟨h0, h1, h2, h3, h4, h5, h6⟩⟩ := hC; go_simp; done) | (obtain ⟨⟨h0, h1, h2, h3, h4, h5, h6⟩⟩ := hC; go_simp; rfl)); clear hK K))
            refine ord_nil ?_
            intro W22 hC
            have HLG2 := Lib.hid hC.out
            clear hC
            go_upto_region 24 with (fail)
            refine wp_region_ord [(0, true), (1, true), (2, true), (3, true), (4, true), (5, true), (6, true), (7, true), (8, true), (9, true), (10, true), (11, true), (12, true), (13, true), (14, true), (15, true), (16, true), (17, true), (18, true)] (fun W => LG wr W ad ae gm k j n x mk) (fun _ _ h hb => LG.step h hb) (by kernel_rfl) (by kernel_rfl) (LG.step HLG2.out (below_drew1 (Below.refl _ _))) ?_
            simp only [pickOps, List.getElem?_cons_succ, List.getElem?_cons_zero]
            repeat (refine ord_calm (fun K hK => ?_); go_simp; first | (refine hK _ ?_; clear hK K) | (apply Exists.intro; refine ⟨fun W hC => ?_, hK _ ?_⟩; (first | rfl | (obtain ⟨⟨h0, h1, h2, h3, h4, h5, h6⟩⟩ := hC; go_simp; done) | (obtain ⟨⟨h0, h1, h2, h3, h4, h5, h6⟩⟩ := hC; go_simp; rfl)); clear hK K))
            refine ord_nil ?_
            intro W24 hC
            have HBc := Lib.hid hC.out.2.2.2.2.2.2
            clear hC HLG2
            go_wp2
            exact ⟨⟨j + 1, by omega, by go_num, by
              have hA := Hacc.out
              have hG := Hge.out
              rw [Hany.out, Hah.out, hG]
              revert hA
              cases c0 <;> cases (ab.take j).any (ahE mk) <;> simp, below_step hB2 HBc.out⟩, by simp [intOf]; omega⟩
        · have hjk : ab.take j = ab := List.take_of_length_le (by omega)
          rw [hjk, ← Hcl.out]
          clear hjk
          have hB5 := below_trans hB10 (below_lower hB2 hB10.size)
          have HO5 := Lib.hid (own_later HO1410.out hB2)
          go_wp2_with (go_at_call 14; (with_reducible refine (H.out.mm _ (k + 1) (by omega) hB5).mono ?_); rintro e w20 ⟨gm2, cm2, rfl, hO20, hb20⟩)
          exact ⟨⟨k + 1, gm2, cm2, by omega, by go_num, rfl, by first | rfl | simp, by rw [Hnw.out]; exact own_later HO5.out hb20, own_lower hO20 hB5.size, below_step hB5 hb20⟩, by simp [intOf]; omega⟩
    · have hkl : l.take k = l := by rw [List.take_of_length_le (by omega)]
      rw [hkl, Hkb.out]
      clear hkl hOo hOm
      go_wp2_with (first
        | (go_at_call 18; (with_reducible refine (known_true _).mono ?_); rintro e w7 ⟨rfl, hb7⟩))
      go_ret
      exact ⟨by first | rfl | simp, below_step hB hb7⟩
set_option maxRecDepth 100000 in
set_option maxHeartbeats 1000000 in
theorem law_grows (l : List News) (A : Option Addr) (c : Nat) (srcs : Int) (w : World) (hr : NewsRow w A l.length l) (hc : l.length ≤ c) (hz : l.length * 56 ≤ 140737488351232) :
    Calls Try.prog 7 #[.slice A l.length c, .int .i64 srcs] w fun e w' => e = .returned (.bool true) ∧ Below w.heap.size w w' := by
  cases hf : formedB l srcs
  · have Hr := Lib.hid hr
    clear hr
    go_enter Try.func7, Try.ntmps7
    go_wp2_with (first
      | (go_at_call 28; (with_reducible refine (ref_Formed l A c srcs _ Hr.out hc).mono ?_); rintro e w1 ⟨rfl, hb1⟩)
      | (go_at_call 18; (with_reducible refine (known_true _).mono ?_); rintro e w14 ⟨rfl, hb14⟩))
    go_ret
    exact ⟨rfl, below_step hb1 hb14⟩
  · have hs := plainB_src (formedB_plain hf)
    obtain ⟨N, rfl⟩ : ∃ N : Nat, srcs = (N : Int) := ⟨srcs.toNat, by omega⟩
    exact grows_walk l N A c w hr hc hs.2.1 (by omega) (by omega) (plainB_srcs (formedB_plain hf)) (grow_calls hr hc hf)
end Go.Proofs.Ytdpkpibcjbllcaa
namespace Go.Proofs.Ytdpkpibcjbllcaa.HistGrows
open Go.ChangeShapes Go.WideShapes Go.ChangeAt Go.RowKit
open Go.ChangeMaps (open_string shut_string)
theorem own : ownKnob Try.prog.godebug = none := by kernel_rfl
theorem laidOut : laidOutB Try.prog = true := by kernel_rfl
set_option maxRecDepth 100000 in
theorem lifted (os : Os) (started : os.Started) (H : Type) (enc : TypeId × Value → H) :
    ReturnsInHanded {} Try.checked os 7 .any (Rows.histGrowsSpec.pre6 enc Try.prog Try.f7 Rows.histGrowsRow.domain false) (Rows.histGrowsSpec.post enc Try.prog Try.f7 false true false false) := by
  refine returnsInHanded_of_change_sized (C := Try.checked) own started (by kernel_rfl) Try.func7
    (ChangeSpec.witness6 (enc := enc) (C := Try.checked) false ⟨#[], #[.slice none 0 0, .int .i64 0], []⟩ 8 (by kernel_rfl) (by kernel_rfl) (by kernel_rfl) (by kernel_rfl)) ?_
  intro W base args ds gs before hval0 hW hcnd hsz0 _
  have hsz : (DataW.weightsEach Try.prog (Try.f7.params.toList ++ Rows.histGrowsSpec.plain.varTypes Try.prog) (ds ++ gs)).all (· ≤ reachBytes) = true := hsz0
  have hval : ∀ (j : Nat) t v, Try.f7.params[j]? = some t → args[j]? = some v → Value.okWide Try.prog W .any base t v := hval0
  have hW' := hW
  obtain ⟨p, q, hA0, hV, rfl, hfz, hnd⟩ := hW
  have hA : DataW.TrodAll enc Try.prog W 0 (fun _ => true) true Try.f7.params.toList args.toList ds p := hA0
  rw [Try.params7] at hA hval hsz
  obtain ⟨v0, vs0, d0, ds0, p0, q0, hargs, rfl, rfl, h0, r0⟩ := trodAll_cons hA
  obtain ⟨v1, vs1, d1, ds1, p1, q1, rfl, rfl, rfl, h1, r1⟩ := trodAll_cons r0
  obtain ⟨rfl, rfl, rfl⟩ := trodAll_nil r1
  obtain rfl : args = #[v0, v1] := by cases args; simp_all
  obtain ⟨rfl, rfl⟩ := trodVars_none hV
  obtain ⟨a0, len0, cap0, rfl⟩ := okWide_slice Try.underlying22 (hval 0 22 v0 rfl rfl)
  have k0 := h0
  have lt0 : ∀ x ∈ p0, x.block < W.heap.size := by obtain ⟨m, hm⟩ := k0; exact DataW.trod_lt m _ _ _ hm
  have y0 := sized_news hsz (j := 0) rfl rfl h0
  have w0 : len0 ≤ cap0 ∧ ∃ l, l.length = len0 ∧ NewsRow W a0 l.length l := by
    obtain ⟨fuel, hf⟩ := h0
    obtain ⟨A, len, cap, l, hcs, hlc, hl, hr⟩ := open_newsrow hf
    simp [Value.cells] at hcs
    obtain ⟨rfl, rfl, rfl⟩ := hcs
    exact ⟨hlc, l, hl, hr⟩
  obtain ⟨hc0, l0, rfl, hr0⟩ := w0
  obtain ⟨a1, rfl, rfl, rfl, w1⟩ := open_int Try.underlying3 (hval 1 3 v1 rfl rfl) h1
  clear hA0 hval0 hsz0 hsz
  refine (law_grows l0 a0 cap0 a1 W hr0 hc0 y0).mono fun e W' ⟨he, bel⟩ => ?_
  subst he
  exact ⟨_, rfl, _, _, _, [], _, [], hW', trodAll_mk1 (shut_bool Try.underlying4 _), (trodAll_cons_mk (Below.trod laidOut (by kernel_rfl) (of_decide_eq_true (by kernel_rfl)) k0 bel lt0) (trodAll_cons_mk (shut_int Try.underlying3 w1) trodAll_mk0)), rfl, bel.frame _, fun h => by cases h⟩
theorem over : Rows.histGrowsRow.holds Try.pinned (OpenSpec.ofChange Rows.histGrowsSpec) :=
  OpenClaim.holds_of_wide 7 Try.f7 rfl rfl rfl rfl rfl rfl rfl ⟨rfl, rfl, rfl, rfl, rfl⟩ rfl rfl rfl rfl rfl (by kernel_rfl) Try.func7 (by kernel_rfl)
    (of_decide_eq_true (by kernel_rfl)) (by unfold Func.isWrapper; first | (rw [if_pos (by decide +kernel)]; kernel_rfl) | (rw [if_neg (by decide +kernel)]; exact ⟨rfl, rfl⟩))
    (fun os started H enc _ => lifted os started H enc)
end Go.Proofs.Ytdpkpibcjbllcaa.HistGrows
namespace Go.Proofs.Ytdpkpibcjbllcaa
/-- The row. -/
theorem HistGrows_holds : Rows.HistGrowsSaid := HistGrows.over
#print axioms HistGrows_holds
end Go.Proofs.Ytdpkpibcjbllcaa
