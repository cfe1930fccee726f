/-
  Texts of one hand, laid together: LawAny.
-/
import Derived.Test.YtdpkpibcjbllcaaZT
import Derived.Test.YtdpkpibcjbllcaaZS
import Derived.Test.YtdpkpibcjbllcaaRows
import Derived.ProofKit
import Derived.OpenShut
import Derived.ShutString
import Derived.ChangeOld
import Derived.SizedLaws
set_option linter.unusedVariables false
set_option linter.unusedSimpArgs false
/-! HistAny. -/
namespace Go.Proofs.Ytdpkpibcjbllcaa
open Go.RowKit Go.Proofs.YtdpkpibcjbllcaaW.PrintWords

/-- What the law's calls give behind its loop. -/
structure AnyCalls (l m L : List News) (S : List Event) (M : List Int) (A : Option Addr) (ca : Nat) (srcs : Int) (w : World) : Prop where
  s1 : ∀ W, Below w.heap.size w W → Calls Try.prog 12 #[.slice A l.length ca, .int .i64 srcs] W (OwnE kEvent 49 S 0 W)
  s2 : ∀ W B cb, NewsRow W B m.length m → m.length ≤ cb → Calls Try.prog 12 #[.slice B m.length cb, .int .i64 srcs] W (OwnE kEvent 49 S 0 W)
  s3 : ∀ W B cb, NewsRow W B L.length L → L.length ≤ cb → Calls Try.prog 12 #[.slice B L.length cb, .int .i64 srcs] W (OwnE kEvent 49 S 0 W)
  m1 : ∀ W, Below w.heap.size w W → Calls Try.prog 14 #[.slice A l.length ca, .int .i64 srcs] W (OwnE (Kd.int .i64) 3 M 0 W)
  m2 : ∀ W B cb, NewsRow W B m.length m → m.length ≤ cb → Calls Try.prog 14 #[.slice B m.length cb, .int .i64 srcs] W (OwnE (Kd.int .i64) 3 M 0 W)
  m3 : ∀ W B cb, NewsRow W B L.length L → L.length ≤ cb → Calls Try.prog 14 #[.slice B L.length cb, .int .i64 srcs] W (OwnE (Kd.int .i64) 3 M 0 W)
  l1 : ∀ W, Below w.heap.size w W → Calls Try.prog 21 #[.slice A l.length ca, .int .i64 srcs] W (OwnE kNews 38 L 0 W)
  l2 : ∀ W B cb, NewsRow W B m.length m → m.length ≤ cb → Calls Try.prog 21 #[.slice B m.length cb, .int .i64 srcs] W (OwnE kNews 38 L 0 W)
  f1 : ∀ W B cb, NewsRow W B L.length L → L.length ≤ cb → Calls Try.prog 28 #[.slice B L.length cb, .int .i64 srcs] W fun r W' => r = .returned (.bool true) ∧ Below W.heap.size W W'
  e1 : ∀ W B cb, Below w.heap.size w W → NewsRow W B L.length L → L.length ≤ cb → Calls Try.prog 36 #[.slice A l.length ca, .slice B L.length cb, .int .i64 srcs] W fun r W' => r = .returned (.tuple #[.bool true, .int .i64 0]) ∧ Below W.heap.size W W'
theorem any_calls {l m : List News} {A : Option Addr} {ca : Nat} {srcs : Int} {w : World} (hr : NewsRow w A l.length l) (hc : l.length ≤ ca) (h1 : formedB l srcs = true) (h2 : formedB m srcs = true) (he : leastR l = leastR m) :
    AnyCalls l m (leastR l) (stS l) (marksOf l srcs) A ca srcs w := by
  obtain ⟨hll, hf⟩ := least_least h1
  have g1 := GoodAll.of h1
  have g2 := GoodAll.of h2
  have g3 := GoodAll.of hf
  exact {
    s1 := fun W h => hist_StandsF l A ca srcs W (news_later hr h) hc h1 _ (stS_sort l)
    s2 := fun W B cb hB hcb => hist_StandsF m B cb srcs W hB hcb h2 _ (sort_same g1 g2 he (stS_sort l))
    s3 := fun W B cb hB hcb => hist_StandsF _ B cb srcs W hB hcb hf _ (sort_same g1 g3 hll.symm (stS_sort l))
    m1 := fun W h => hist_MarksF l A ca srcs W (news_later hr h) hc h1 _ rfl
    m2 := fun W B cb hB hcb => hist_MarksF m B cb srcs W hB hcb h2 _ (marks_same g1 g2 he srcs)
    m3 := fun W B cb hB hcb => hist_MarksF _ B cb srcs W hB hcb hf _ (marks_same g1 g3 hll.symm srcs)
    l1 := fun W h => hist_LeastS l A ca srcs W (news_later hr h) hc h1 _ rfl
    l2 := fun W B cb hB hcb => hist_LeastS m B cb srcs W hB hcb h2 _ he.symm
    f1 := fun W B cb hB hcb => hf ▸ ref_Formed _ B cb srcs W hB hcb
    e1 := fun W B cb h hB hcb => by
      have := hist_Same' l (leastR l) A B ca cb srcs W (news_later hr h) hc hB hcb
      simpa [sameR, h1, hf, hll] using this }
set_option maxRecDepth 100000 in
set_option maxHeartbeats 8000000 in
theorem law_any (l : List News) (A : Option Addr) (ca : Nat) (srcs : Int) (bs : List Int) (Bb : Option Addr) (cb : Nat) (w : World) (hr : NewsRow w A l.length l) (hc : l.length ≤ ca) (hz : l.length * 56 ≤ 140737488351232) (hb : BytesRow w Bb bs.length bs) (hcb : bs.length ≤ cb) (hzb : True) :
    Calls Try.prog 9 #[.slice A l.length ca, .int .i64 srcs, .slice Bb bs.length cb] w fun e w' => e = .returned (.bool true) ∧ Below w.heap.size w w' := by
  have hbm : bs.length ≤ 9223372036854775807 := hb.1.2.1
  have Hb := Lib.hid hb
  clear hb hzb
  cases hf : formedB l srcs
  · have Hr := Lib.hid hr
    clear hr
    go_enter Try.func9, Try.ntmps9
    go_wp2_with (first
      | (go_at_call 28; (with_reducible refine (ref_Formed l A ca srcs _ Hr.out hc).mono ?_); rintro e w1 ⟨rfl, hb1⟩)
      | (go_at_call 18; (with_reducible refine (known_true _).mono ?_); rintro e w14 ⟨rfl, hb14⟩))
    go_ret
    exact ⟨rfl, below_step hb1 hb14⟩
  · have hl60 := (plainB_src (formedB_plain hf)).2.1
    have Hcalls : Hid (∀ m, formedB m srcs = true → leastR l = leastR m → AnyCalls l m (leastR l) (stS l) (marksOf l srcs) A ca srcs w) := Lib.hid (fun m h2 he => any_calls hr hc hf h2 he)
    have Hmem : Hid (∀ m : List News, (∀ x, x ∈ m ↔ x ∈ l) → m.length ≤ 60 → formedB m srcs = true ∧ leastR l = leastR m) := Lib.hid (fun m h1 h2 => same_members hf h1 h2)
    have Hf := Lib.hid hf
    have Hr := Lib.hid hr
    have hLl := leastR_len l
    clear hr
    obtain ⟨L, hL⟩ : ∃ L, leastR l = L := ⟨_, rfl⟩
    obtain ⟨S, hS⟩ : ∃ S, stS l = S := ⟨_, rfl⟩
    obtain ⟨M, hM⟩ : ∃ M, marksOf l srcs = M := ⟨_, rfl⟩
    rw [hL, hS, hM] at Hcalls
    rw [hL] at Hmem hLl
    clear hL hS hM
    go_enter Try.func9, Try.ntmps9
    go_upto_region 4 with (first
      | (go_at_call 28; (with_reducible refine (ref_Formed l A ca srcs _ Hr.out hc).mono ?_); rintro e w1 ⟨rfl, hb1⟩)
      | (at_builtin; refine Kd.R_append_rows kNews (w0 := w) w.heap.size rfl (.const (.slice none 0 0)) (.tmp 25) 22 38 (.agg #[(.int .i64 0), (.int .i64 0), (.int .i64 0), (.int .i64 0), (.int .i64 0), (.int .i64 0), (.int .i64 0)]) 56 rfl Try.underlying22 info_news rfl (by decide) (by omega) (.slice none 0 0) [] l _ _ _ (fun _ => True) (fun _ => False) rfl rfl ?aO ?aR (fun _ _ h => h) (fun _ h => h.elim) ?aF ?aB ?aS ?aL ?_; (case aO => exact Kd.R_nil _ _ _ _ _); (case aR => exact (news_later Hr.out hb1)); (case aF => exact (fun _ _ => trivial)); (case aB => exact hb1); (case aS => exact hb1.size); (case aL => (rw [List.length_nil]; omega)); intro v7 w7 ho7 hb7 hg7 hat7; rw [List.nil_append] at ho7))
    have HO7 := Lib.hid ho7
    clear ho7 hg7 hat7
    go_wp2
    go_loopw [7, 8] (fun v i wr => ∃ (k : Nat) (xs : List News), k ≤ l.length ∧ i = .int .i64 k ∧ xs.length ≤ 60 ∧ Hid (∀ x, x ∈ xs ↔ x ∈ l) ∧ Own kNews 38 wr w.heap.size v xs ∧ Below w.heap.size w wr) (fun _ i _ => l.length - (intOf i).toNat)
    case atStart => exact ⟨0, l, Nat.zero_le _, rfl, hl60, Lib.hid (fun _ => Iff.rfl), HO7.out, hb7⟩
    case round =>
      obtain ⟨k, xs, hk, rfl, hx60, Hx, hO, hB⟩ := hrel
      obtain ⟨A7, c7, rfl, hc7, hr7⟩ := own_reads' hO
      have HO := Lib.hid hO
      have Hr7 := Lib.hid hr7
      clear hO hr7
      by_cases hgo : k < l.length ∧ k < bs.length ∧ xs.length < 60
      · obtain ⟨hlt, hlb, hx⟩ := hgo
        obtain ⟨n, ad, hd, htk, hget, rfl, e0, e1, e2, e3, e4, e5, e6⟩ := news_at (news_later Hr.out hB) k hlt
        obtain ⟨bt, ab, hbt, rfl, hbc⟩ := byte_at (Hb.out.later hB) k hlb
        have hmem : ∀ x, x ∈ xs ++ [n] ↔ x ∈ l := fun x => by
          rw [List.mem_append, Hx.out x, List.mem_singleton]
          exact ⟨fun h => h.elim id (fun e => e ▸ List.mem_of_getElem? hget), .inl⟩
        have Hmem' := Lib.hid hmem
        clear hd htk hget hmem
        cases hm3 : decide (bt % 3 = 0)
        · have h3a : ¬ ((bt : Int) % 3 = 0) := by
            have := of_decide_eq_false hm3
            omega
          have h3b : ((bt : Int) % 3 == 0) = false := by simpa using h3a
          clear hm3
          go_wp2
          exact ⟨⟨k + 1, xs, by omega, by go_num, hx60, Hx, HO.out, hB⟩, by simp [intOf]; omega⟩
        · have h3a : (bt : Int) % 3 = 0 := by
            have := of_decide_eq_true hm3
            omega
          have h3b : ((bt : Int) % 3 == 0) = true := by simpa using h3a
          clear hm3
          go_wp2_with (at_builtin; refine Kd.R_append kNews (w0 := w) w.heap.size rfl (.tmp 50) (.tmp 55) 22 38 (.agg #[(.int .i64 0), (.int .i64 0), (.int .i64 0), (.int .i64 0), (.int .i64 0), (.int .i64 0), (.int .i64 0)]) 56 rfl Try.underlying22 info_news rfl (by decide) (by omega) _ xs n [.int .i64 n.do_, .int .i64 n.src, .int .i64 n.id, .int .i64 n.ver, .int .i64 n.body.at_, .int .i64 n.body.key, .int .i64 n.body.val] (fun _ => True) (fun _ => False) rfl rfl ?aP (fun _ hk => hk.elim) ?aF ?aO ?aB ?aS ?aL ?_; (case aP => exact kNews_mkM _ _ _ _); (case aF => exact (fun _ _ => trivial)); (case aO => exact HO.out); (case aB => exact hB); (case aS => exact hB.size); (case aL => omega); intro v9 w9 ho9 hb9 hg9 hat9)
          exact ⟨⟨k + 1, xs ++ [n], by omega, by go_num, by rw [List.length_append, List.length_singleton]; omega, Hmem', ho9, hb9⟩, by simp [intOf]; omega⟩
      · have Hxm := Hmem.out xs Hx.out hx60
        have hxl100 : xs.length ≤ 100 := by omega
        by_cases p1 : k < l.length
        · by_cases p2 : k < bs.length
          · have p3 : ¬ xs.length < 60 := fun h => hgo ⟨p1, p2, h⟩
            clear hgo
            go_upto_region 10 with (first
              | (go_at_call 35; (with_reducible refine (law_Turned xs _ _ bs _ _ _ Hr7.out hc7 (Hb.out.later hB) hxl100).mono ?_); rintro e w2 ⟨ys, hperm, v8, rfl, hO8, hb8⟩; have hB8 := below_step hB hb8; obtain ⟨A8, c8, rfl, hc8, hr8⟩ := own_reads' hO8; have Hr8 := Lib.hid hr8; clear hO8 hr8))
            obtain ⟨h2, he⟩ := Hmem.out ys (fun x => hperm.mem_iff.trans (Hx.out x)) (by rw [hperm.length_eq]; exact hx60)
            have H := Lib.hid (Hcalls.out ys h2 he)
            clear h2 he hperm Hxm HO Hr7 hb8 Hx
            go_upto_region 11 with (go_at_call 12; (with_reducible refine (H.out.s1 _ hB8).mono ?_); rintro e w3 ⟨A9, c9, rfl, hO9, hb9⟩; have hB9 := below_step hB8 hb9; have HR9 := Lib.hid (own_readsS hO9); have Hr8b := Lib.hid (news_later Hr8.out hb9); clear hO9)
            go_upto_region 12 with (go_at_call 12; (with_reducible refine (H.out.s2 _ _ _ Hr8b.out hc8).mono ?_); rintro e w4 ⟨A11, c11, rfl, hO11, hb10⟩; have hB10 := below_step hB9 hb10; have HR11 := Lib.hid (own_readsS hO11); have Hr8c := Lib.hid (news_later Hr8b.out hb10); have HR9b := Lib.hid (Kd.C_below HR9.out hb10); clear hO11 HR9 Hr8 Hr8b)
            go_upto_region 13 with (go_at_call 14; (with_reducible refine (H.out.m1 _ hB10).mono ?_); rintro e w5 ⟨A13, c13, rfl, hO13, hb11⟩; have hB11 := below_step hB10 hb11; have HR13 := Lib.hid (own_readsS hO13); have Hr8d := Lib.hid (news_later Hr8c.out hb11); clear hO13 Hr8c)
            go_upto_region 14 with (go_at_call 14; (with_reducible refine (H.out.m2 _ _ _ Hr8d.out hc8).mono ?_); rintro e w6 ⟨A15, c15, rfl, hO15, hb12⟩; have hB12 := below_step hB11 hb12; have HR15 := Lib.hid (own_readsS hO15); have Hr8e := Lib.hid (news_later Hr8d.out hb12); have HR13b := Lib.hid (Kd.C_below HR13.out hb12); clear hO15 Hr8d HR13)
            have hb1112 := below_step hb11 hb12
            have HR9c := Lib.hid (Kd.C_below HR9b.out hb1112)
            have HR11b := Lib.hid (Kd.C_below HR11.out hb1112)
            clear HR9b HR11
            go_upto_region 16 with (first
              | (go_at_call 16; (with_reducible refine (same_events_self S _ _ _ _ _ HR9c.out HR11b.out).mono ?_); rintro e w7 ⟨rfl, hb13⟩; have hB13 := below_step hB12 hb13; have HR13c := Lib.hid (Kd.C_below HR13b.out hb13); have HR15b := Lib.hid (Kd.C_below HR15.out hb13))
              | (go_at_call 17; (with_reducible refine (same_ints_self M _ _ _ _ _ HR13c.out HR15b.out).mono ?_); rintro e w8 ⟨rfl, hb14⟩; have hB14 := below_step hB13 hb14))
            have hb1314 := below_step hb13 hb14
            have HR9d := Lib.hid (Kd.C_below HR9c.out hb1314)
            have HR13d := Lib.hid (Kd.C_below HR13b.out hb1314)
            have Hr8f := Lib.hid (news_later Hr8e.out hb1314)
            clear HR9c HR11b HR13c HR15b HR13b HR15 Hr8e
            go_upto_region 17 with (go_at_call 21; (with_reducible refine (H.out.l1 _ hB14).mono ?_); rintro e w9 ⟨A17, c17, rfl, hO17, hb15⟩; have hB15 := below_step hB14 hb15; have HR17 := Lib.hid (own_readsS hO17); have hc17 := own_capE hO17; have Hr8g := Lib.hid (news_later Hr8f.out hb15); clear hO17 Hr8f)
            go_upto_region 18 with (go_at_call 21; (with_reducible refine (H.out.l2 _ _ _ Hr8g.out hc8).mono ?_); rintro e w10 ⟨A18, c18, rfl, hO18, hb16⟩; have hB16 := below_step hB15 hb16; have HR18 := Lib.hid (own_readsS hO18); have HR17b := Lib.hid (news_later HR17.out hb16); clear hO18 Hr8g HR17)
            go_upto_region 20 with (first
              | (go_at_call 23; (with_reducible refine (same_news_self L _ _ _ _ _ HR17b.out HR18.out).mono ?_); rintro e w11 ⟨rfl, hb17⟩; have hB17 := below_step hB16 hb17; have HR17c := Lib.hid (news_later HR17b.out hb17))
              | (go_at_call 28; (with_reducible refine (H.out.f1 _ _ _ HR17c.out hc17).mono ?_); rintro e w12 ⟨rfl, hb18⟩; have hB18 := below_step hB17 hb18; have HR17d := Lib.hid (news_later HR17c.out hb18)))
            have hb1518 := below_step (below_step (below_step hb15 hb16) hb17) hb18
            have HR9e := Lib.hid (Kd.C_below HR9d.out hb1518)
            have HR13e := Lib.hid (Kd.C_below HR13d.out hb1518)
            clear HR9d HR13d HR17b HR17c HR18
            go_upto_region 21 with (go_at_call 12; (with_reducible refine (H.out.s3 _ _ _ HR17d.out hc17).mono ?_); rintro e w13 ⟨A21, c21, rfl, hO21, hb19⟩; have hB19 := below_step hB18 hb19; have HR21 := Lib.hid (own_readsS hO21); have HR17e := Lib.hid (news_later HR17d.out hb19); clear hO21 HR17d)
            go_upto_region 22 with (go_at_call 14; (with_reducible refine (H.out.m3 _ _ _ HR17e.out hc17).mono ?_); rintro e w14 ⟨A22, c22, rfl, hO22, hb20⟩; have hB20 := below_step hB19 hb20; have HR22 := Lib.hid (own_readsS hO22); have HR17f := Lib.hid (news_later HR17e.out hb20); have HR21b := Lib.hid (Kd.C_below HR21.out hb20); clear hO22 HR17e HR21)
            go_upto_region 23 with (go_at_call 36; (with_reducible refine (H.out.e1 _ _ _ hB20 HR17f.out hc17).mono ?_); rintro e w15 ⟨rfl, hb21⟩; have hB21 := below_step hB20 hb21)
            have hb1921 := below_step (below_step hb19 hb20) hb21
            have HR9f := Lib.hid (Kd.C_below HR9e.out hb1921)
            have HR13f := Lib.hid (Kd.C_below HR13e.out hb1921)
            have HR21c := Lib.hid (Kd.C_below HR21b.out hb21)
            have HR22b := Lib.hid (Kd.C_below HR22.out hb21)
            clear HR9e HR13e HR21b HR22 HR17f
            go_wp2_with (first
              | (go_at_call 16; (with_reducible refine (same_events_self S _ _ _ _ _ HR9f.out HR21c.out).mono ?_); rintro e w16 ⟨rfl, hb22⟩; have hB22 := below_step hB21 hb22; have HR13g := Lib.hid (Kd.C_below HR13f.out hb22); have HR22c := Lib.hid (Kd.C_below HR22b.out hb22))
              | (go_at_call 17; (with_reducible refine (same_ints_self M _ _ _ _ _ HR13g.out HR22c.out).mono ?_); rintro e w17 ⟨rfl, hb23⟩; have hB23 := below_step hB22 hb23)
              | (go_at_call 18; (with_reducible refine (known_true _).mono ?_); rintro e w18 ⟨rfl, hb24⟩))
            go_ret
            exact ⟨rfl, below_step hB23 hb24⟩
          · clear hgo
            go_upto_region 10 with (first
              | (go_at_call 35; (with_reducible refine (law_Turned xs _ _ bs _ _ _ Hr7.out hc7 (Hb.out.later hB) hxl100).mono ?_); rintro e w2 ⟨ys, hperm, v8, rfl, hO8, hb8⟩; have hB8 := below_step hB hb8; obtain ⟨A8, c8, rfl, hc8, hr8⟩ := own_reads' hO8; have Hr8 := Lib.hid hr8; clear hO8 hr8))
            obtain ⟨h2, he⟩ := Hmem.out ys (fun x => hperm.mem_iff.trans (Hx.out x)) (by rw [hperm.length_eq]; exact hx60)
            have H := Lib.hid (Hcalls.out ys h2 he)
            clear h2 he hperm Hxm HO Hr7 hb8 Hx
            go_upto_region 11 with (go_at_call 12; (with_reducible refine (H.out.s1 _ hB8).mono ?_); rintro e w3 ⟨A9, c9, rfl, hO9, hb9⟩; have hB9 := below_step hB8 hb9; have HR9 := Lib.hid (own_readsS hO9); have Hr8b := Lib.hid (news_later Hr8.out hb9); clear hO9)
            go_upto_region 12 with (go_at_call 12; (with_reducible refine (H.out.s2 _ _ _ Hr8b.out hc8).mono ?_); rintro e w4 ⟨A11, c11, rfl, hO11, hb10⟩; have hB10 := below_step hB9 hb10; have HR11 := Lib.hid (own_readsS hO11); have Hr8c := Lib.hid (news_later Hr8b.out hb10); have HR9b := Lib.hid (Kd.C_below HR9.out hb10); clear hO11 HR9 Hr8 Hr8b)
            go_upto_region 13 with (go_at_call 14; (with_reducible refine (H.out.m1 _ hB10).mono ?_); rintro e w5 ⟨A13, c13, rfl, hO13, hb11⟩; have hB11 := below_step hB10 hb11; have HR13 := Lib.hid (own_readsS hO13); have Hr8d := Lib.hid (news_later Hr8c.out hb11); clear hO13 Hr8c)
            go_upto_region 14 with (go_at_call 14; (with_reducible refine (H.out.m2 _ _ _ Hr8d.out hc8).mono ?_); rintro e w6 ⟨A15, c15, rfl, hO15, hb12⟩; have hB12 := below_step hB11 hb12; have HR15 := Lib.hid (own_readsS hO15); have Hr8e := Lib.hid (news_later Hr8d.out hb12); have HR13b := Lib.hid (Kd.C_below HR13.out hb12); clear hO15 Hr8d HR13)
            have hb1112 := below_step hb11 hb12
            have HR9c := Lib.hid (Kd.C_below HR9b.out hb1112)
            have HR11b := Lib.hid (Kd.C_below HR11.out hb1112)
            clear HR9b HR11
            go_upto_region 16 with (first
              | (go_at_call 16; (with_reducible refine (same_events_self S _ _ _ _ _ HR9c.out HR11b.out).mono ?_); rintro e w7 ⟨rfl, hb13⟩; have hB13 := below_step hB12 hb13; have HR13c := Lib.hid (Kd.C_below HR13b.out hb13); have HR15b := Lib.hid (Kd.C_below HR15.out hb13))
              | (go_at_call 17; (with_reducible refine (same_ints_self M _ _ _ _ _ HR13c.out HR15b.out).mono ?_); rintro e w8 ⟨rfl, hb14⟩; have hB14 := below_step hB13 hb14))
            have hb1314 := below_step hb13 hb14
            have HR9d := Lib.hid (Kd.C_below HR9c.out hb1314)
            have HR13d := Lib.hid (Kd.C_below HR13b.out hb1314)
            have Hr8f := Lib.hid (news_later Hr8e.out hb1314)
            clear HR9c HR11b HR13c HR15b HR13b HR15 Hr8e
            go_upto_region 17 with (go_at_call 21; (with_reducible refine (H.out.l1 _ hB14).mono ?_); rintro e w9 ⟨A17, c17, rfl, hO17, hb15⟩; have hB15 := below_step hB14 hb15; have HR17 := Lib.hid (own_readsS hO17); have hc17 := own_capE hO17; have Hr8g := Lib.hid (news_later Hr8f.out hb15); clear hO17 Hr8f)
            go_upto_region 18 with (go_at_call 21; (with_reducible refine (H.out.l2 _ _ _ Hr8g.out hc8).mono ?_); rintro e w10 ⟨A18, c18, rfl, hO18, hb16⟩; have hB16 := below_step hB15 hb16; have HR18 := Lib.hid (own_readsS hO18); have HR17b := Lib.hid (news_later HR17.out hb16); clear hO18 Hr8g HR17)
            go_upto_region 20 with (first
              | (go_at_call 23; (with_reducible refine (same_news_self L _ _ _ _ _ HR17b.out HR18.out).mono ?_); rintro e w11 ⟨rfl, hb17⟩; have hB17 := below_step hB16 hb17; have HR17c := Lib.hid (news_later HR17b.out hb17))
              | (go_at_call 28; (with_reducible refine (H.out.f1 _ _ _ HR17c.out hc17).mono ?_); rintro e w12 ⟨rfl, hb18⟩; have hB18 := below_step hB17 hb18; have HR17d := Lib.hid (news_later HR17c.out hb18)))
            have hb1518 := below_step (below_step (below_step hb15 hb16) hb17) hb18
            have HR9e := Lib.hid (Kd.C_below HR9d.out hb1518)
            have HR13e := Lib.hid (Kd.C_below HR13d.out hb1518)
            clear HR9d HR13d HR17b HR17c HR18
            go_upto_region 21 with (go_at_call 12; (with_reducible refine (H.out.s3 _ _ _ HR17d.out hc17).mono ?_); rintro e w13 ⟨A21, c21, rfl, hO21, hb19⟩; have hB19 := below_step hB18 hb19; have HR21 := Lib.hid (own_readsS hO21); have HR17e := Lib.hid (news_later HR17d.out hb19); clear hO21 HR17d)
            go_upto_region 22 with (go_at_call 14; (with_reducible refine (H.out.m3 _ _ _ HR17e.out hc17).mono ?_); rintro e w14 ⟨A22, c22, rfl, hO22, hb20⟩; have hB20 := below_step hB19 hb20; have HR22 := Lib.hid (own_readsS hO22); have HR17f := Lib.hid (news_later HR17e.out hb20); have HR21b := Lib.hid (Kd.C_below HR21.out hb20); clear hO22 HR17e HR21)
            go_upto_region 23 with (go_at_call 36; (with_reducible refine (H.out.e1 _ _ _ hB20 HR17f.out hc17).mono ?_); rintro e w15 ⟨rfl, hb21⟩; have hB21 := below_step hB20 hb21)
            have hb1921 := below_step (below_step hb19 hb20) hb21
            have HR9f := Lib.hid (Kd.C_below HR9e.out hb1921)
            have HR13f := Lib.hid (Kd.C_below HR13e.out hb1921)
            have HR21c := Lib.hid (Kd.C_below HR21b.out hb21)
            have HR22b := Lib.hid (Kd.C_below HR22.out hb21)
            clear HR9e HR13e HR21b HR22 HR17f
            go_wp2_with (first
              | (go_at_call 16; (with_reducible refine (same_events_self S _ _ _ _ _ HR9f.out HR21c.out).mono ?_); rintro e w16 ⟨rfl, hb22⟩; have hB22 := below_step hB21 hb22; have HR13g := Lib.hid (Kd.C_below HR13f.out hb22); have HR22c := Lib.hid (Kd.C_below HR22b.out hb22))
              | (go_at_call 17; (with_reducible refine (same_ints_self M _ _ _ _ _ HR13g.out HR22c.out).mono ?_); rintro e w17 ⟨rfl, hb23⟩; have hB23 := below_step hB22 hb23)
              | (go_at_call 18; (with_reducible refine (known_true _).mono ?_); rintro e w18 ⟨rfl, hb24⟩))
            go_ret
            exact ⟨rfl, below_step hB23 hb24⟩
        · clear hgo
          go_upto_region 10 with (first
            | (go_at_call 35; (with_reducible refine (law_Turned xs _ _ bs _ _ _ Hr7.out hc7 (Hb.out.later hB) hxl100).mono ?_); rintro e w2 ⟨ys, hperm, v8, rfl, hO8, hb8⟩; have hB8 := below_step hB hb8; obtain ⟨A8, c8, rfl, hc8, hr8⟩ := own_reads' hO8; have Hr8 := Lib.hid hr8; clear hO8 hr8))
          obtain ⟨h2, he⟩ := Hmem.out ys (fun x => hperm.mem_iff.trans (Hx.out x)) (by rw [hperm.length_eq]; exact hx60)
          have H := Lib.hid (Hcalls.out ys h2 he)
          clear h2 he hperm Hxm HO Hr7 hb8 Hx
          go_upto_region 11 with (go_at_call 12; (with_reducible refine (H.out.s1 _ hB8).mono ?_); rintro e w3 ⟨A9, c9, rfl, hO9, hb9⟩; have hB9 := below_step hB8 hb9; have HR9 := Lib.hid (own_readsS hO9); have Hr8b := Lib.hid (news_later Hr8.out hb9); clear hO9)
          go_upto_region 12 with (go_at_call 12; (with_reducible refine (H.out.s2 _ _ _ Hr8b.out hc8).mono ?_); rintro e w4 ⟨A11, c11, rfl, hO11, hb10⟩; have hB10 := below_step hB9 hb10; have HR11 := Lib.hid (own_readsS hO11); have Hr8c := Lib.hid (news_later Hr8b.out hb10); have HR9b := Lib.hid (Kd.C_below HR9.out hb10); clear hO11 HR9 Hr8 Hr8b)
          go_upto_region 13 with (go_at_call 14; (with_reducible refine (H.out.m1 _ hB10).mono ?_); rintro e w5 ⟨A13, c13, rfl, hO13, hb11⟩; have hB11 := below_step hB10 hb11; have HR13 := Lib.hid (own_readsS hO13); have Hr8d := Lib.hid (news_later Hr8c.out hb11); clear hO13 Hr8c)
          go_upto_region 14 with (go_at_call 14; (with_reducible refine (H.out.m2 _ _ _ Hr8d.out hc8).mono ?_); rintro e w6 ⟨A15, c15, rfl, hO15, hb12⟩; have hB12 := below_step hB11 hb12; have HR15 := Lib.hid (own_readsS hO15); have Hr8e := Lib.hid (news_later Hr8d.out hb12); have HR13b := Lib.hid (Kd.C_below HR13.out hb12); clear hO15 Hr8d HR13)
          have hb1112 := below_step hb11 hb12
          have HR9c := Lib.hid (Kd.C_below HR9b.out hb1112)
          have HR11b := Lib.hid (Kd.C_below HR11.out hb1112)
          clear HR9b HR11
          go_upto_region 16 with (first
            | (go_at_call 16; (with_reducible refine (same_events_self S _ _ _ _ _ HR9c.out HR11b.out).mono ?_); rintro e w7 ⟨rfl, hb13⟩; have hB13 := below_step hB12 hb13; have HR13c := Lib.hid (Kd.C_below HR13b.out hb13); have HR15b := Lib.hid (Kd.C_below HR15.out hb13))
            | (go_at_call 17; (with_reducible refine (same_ints_self M _ _ _ _ _ HR13c.out HR15b.out).mono ?_); rintro e w8 ⟨rfl, hb14⟩; have hB14 := below_step hB13 hb14))
          have hb1314 := below_step hb13 hb14
          have HR9d := Lib.hid (Kd.C_below HR9c.out hb1314)
          have HR13d := Lib.hid (Kd.C_below HR13b.out hb1314)
          have Hr8f := Lib.hid (news_later Hr8e.out hb1314)
          clear HR9c HR11b HR13c HR15b HR13b HR15 Hr8e
          go_upto_region 17 with (go_at_call 21; (with_reducible refine (H.out.l1 _ hB14).mono ?_); rintro e w9 ⟨A17, c17, rfl, hO17, hb15⟩; have hB15 := below_step hB14 hb15; have HR17 := Lib.hid (own_readsS hO17); have hc17 := own_capE hO17; have Hr8g := Lib.hid (news_later Hr8f.out hb15); clear hO17 Hr8f)
          go_upto_region 18 with (go_at_call 21; (with_reducible refine (H.out.l2 _ _ _ Hr8g.out hc8).mono ?_); rintro e w10 ⟨A18, c18, rfl, hO18, hb16⟩; have hB16 := below_step hB15 hb16; have HR18 := Lib.hid (own_readsS hO18); have HR17b := Lib.hid (news_later HR17.out hb16); clear hO18 Hr8g HR17)
          go_upto_region 20 with (first
            | (go_at_call 23; (with_reducible refine (same_news_self L _ _ _ _ _ HR17b.out HR18.out).mono ?_); rintro e w11 ⟨rfl, hb17⟩; have hB17 := below_step hB16 hb17; have HR17c := Lib.hid (news_later HR17b.out hb17))
            | (go_at_call 28; (with_reducible refine (H.out.f1 _ _ _ HR17c.out hc17).mono ?_); rintro e w12 ⟨rfl, hb18⟩; have hB18 := below_step hB17 hb18; have HR17d := Lib.hid (news_later HR17c.out hb18)))
          have hb1518 := below_step (below_step (below_step hb15 hb16) hb17) hb18
          have HR9e := Lib.hid (Kd.C_below HR9d.out hb1518)
          have HR13e := Lib.hid (Kd.C_below HR13d.out hb1518)
          clear HR9d HR13d HR17b HR17c HR18
          go_upto_region 21 with (go_at_call 12; (with_reducible refine (H.out.s3 _ _ _ HR17d.out hc17).mono ?_); rintro e w13 ⟨A21, c21, rfl, hO21, hb19⟩; have hB19 := below_step hB18 hb19; have HR21 := Lib.hid (own_readsS hO21); have HR17e := Lib.hid (news_later HR17d.out hb19); clear hO21 HR17d)
          go_upto_region 22 with (go_at_call 14; (with_reducible refine (H.out.m3 _ _ _ HR17e.out hc17).mono ?_); rintro e w14 ⟨A22, c22, rfl, hO22, hb20⟩; have hB20 := below_step hB19 hb20; have HR22 := Lib.hid (own_readsS hO22); have HR17f := Lib.hid (news_later HR17e.out hb20); have HR21b := Lib.hid (Kd.C_below HR21.out hb20); clear hO22 HR17e HR21)
          go_upto_region 23 with (go_at_call 36; (with_reducible refine (H.out.e1 _ _ _ hB20 HR17f.out hc17).mono ?_); rintro e w15 ⟨rfl, hb21⟩; have hB21 := below_step hB20 hb21)
          have hb1921 := below_step (below_step hb19 hb20) hb21
          have HR9f := Lib.hid (Kd.C_below HR9e.out hb1921)
          have HR13f := Lib.hid (Kd.C_below HR13e.out hb1921)
          have HR21c := Lib.hid (Kd.C_below HR21b.out hb21)
          have HR22b := Lib.hid (Kd.C_below HR22.out hb21)
          clear HR9e HR13e HR21b HR22 HR17f
          go_wp2_with (first
            | (go_at_call 16; (with_reducible refine (same_events_self S _ _ _ _ _ HR9f.out HR21c.out).mono ?_); rintro e w16 ⟨rfl, hb22⟩; have hB22 := below_step hB21 hb22; have HR13g := Lib.hid (Kd.C_below HR13f.out hb22); have HR22c := Lib.hid (Kd.C_below HR22b.out hb22))
            | (go_at_call 17; (with_reducible refine (same_ints_self M _ _ _ _ _ HR13g.out HR22c.out).mono ?_); rintro e w17 ⟨rfl, hb23⟩; have hB23 := below_step hB22 hb23)
            | (go_at_call 18; (with_reducible refine (known_true _).mono ?_); rintro e w18 ⟨rfl, hb24⟩))
          go_ret
          exact ⟨rfl, below_step hB23 hb24⟩
end Go.Proofs.Ytdpkpibcjbllcaa
namespace Go.Proofs.Ytdpkpibcjbllcaa.HistAny
open Go.ChangeShapes Go.WideShapes Go.ChangeAt Go.RowKit
open Go.ChangeMaps (open_string shut_string)
theorem own : ownKnob Try.prog.godebug = none := by kernel_rfl
theorem laidOut : laidOutB Try.prog = true := by kernel_rfl
set_option maxRecDepth 100000 in
theorem lifted (os : Os) (started : os.Started) (H : Type) (enc : TypeId × Value → H) :
    ReturnsInHanded {} Try.checked os 9 .any (Rows.histAnySpec.pre6 enc Try.prog Try.f9 Rows.histAnyRow.domain false) (Rows.histAnySpec.post enc Try.prog Try.f9 false true false false) := by
  refine returnsInHanded_of_change_sized (C := Try.checked) own started (by kernel_rfl) Try.func9
    (ChangeSpec.witness6 (enc := enc) (C := Try.checked) false ⟨#[], #[.slice none 0 0, .int .i64 0, .slice none 0 0], []⟩ 8 (by kernel_rfl) (by kernel_rfl) (by kernel_rfl) (by kernel_rfl)) ?_
  intro W base args ds gs before hval0 hW hcnd hsz0 _
  have hsz : (DataW.weightsEach Try.prog (Try.f9.params.toList ++ Rows.histAnySpec.plain.varTypes Try.prog) (ds ++ gs)).all (· ≤ reachBytes) = true := hsz0
  have hval : ∀ (j : Nat) t v, Try.f9.params[j]? = some t → args[j]? = some v → Value.okWide Try.prog W .any base t v := hval0
  have hW' := hW
  obtain ⟨p, q, hA0, hV, rfl, hfz, hnd⟩ := hW
  have hA : DataW.TrodAll enc Try.prog W 0 (fun _ => true) true Try.f9.params.toList args.toList ds p := hA0
  rw [Try.params9] at hA hval hsz
  obtain ⟨v0, vs0, d0, ds0, p0, q0, hargs, rfl, rfl, h0, r0⟩ := trodAll_cons hA
  obtain ⟨v1, vs1, d1, ds1, p1, q1, rfl, rfl, rfl, h1, r1⟩ := trodAll_cons r0
  obtain ⟨v2, vs2, d2, ds2, p2, q2, rfl, rfl, rfl, h2, r2⟩ := trodAll_cons r1
  obtain ⟨rfl, rfl, rfl⟩ := trodAll_nil r2
  obtain rfl : args = #[v0, v1, v2] := by cases args; simp_all
  obtain ⟨rfl, rfl⟩ := trodVars_none hV
  obtain ⟨a0, len0, cap0, rfl⟩ := okWide_slice Try.underlying22 (hval 0 22 v0 rfl rfl)
  have k0 := h0
  have lt0 : ∀ x ∈ p0, x.block < W.heap.size := by obtain ⟨m, hm⟩ := k0; exact DataW.trod_lt m _ _ _ hm
  have y0 := sized_news hsz (j := 0) rfl rfl h0
  have w0 : len0 ≤ cap0 ∧ ∃ l, l.length = len0 ∧ NewsRow W a0 l.length l := by
    obtain ⟨fuel, hf⟩ := h0
    obtain ⟨A, len, cap, l, hcs, hlc, hl, hr⟩ := open_newsrow hf
    simp [Value.cells] at hcs
    obtain ⟨rfl, rfl, rfl⟩ := hcs
    exact ⟨hlc, l, hl, hr⟩
  obtain ⟨hc0, l0, rfl, hr0⟩ := w0
  obtain ⟨a1, rfl, rfl, rfl, w1⟩ := open_int Try.underlying3 (hval 1 3 v1 rfl rfl) h1
  obtain ⟨a2, len2, cap2, rfl⟩ := okWide_slice Try.underlying53 (hval 2 53 v2 rfl rfl)
  have k2 := h2
  have lt2 : ∀ x ∈ p2, x.block < W.heap.size := by obtain ⟨m, hm⟩ := k2; exact DataW.trod_lt m _ _ _ hm
  have y2 : True := trivial
  have w2 : len2 ≤ cap2 ∧ ∃ l, l.length = len2 ∧ BytesRow W a2 l.length l := by
    obtain ⟨fuel, hf⟩ := h2
    obtain ⟨A, len, cap, l, hcs, hlc, hl, hr⟩ := open_bytesrow hf
    simp [Value.cells] at hcs
    obtain ⟨rfl, rfl, rfl⟩ := hcs
    exact ⟨hlc, l, hl, hr⟩
  obtain ⟨hc2, l2, rfl, hr2⟩ := w2
  clear hA0 hval0 hsz0 hsz
  refine (law_any l0 a0 cap0 a1 l2 a2 cap2 W hr0 hc0 y0 hr2 hc2 y2).mono fun e W' ⟨he, bel⟩ => ?_
  subst he
  exact ⟨_, rfl, _, _, _, [], _, [], hW', trodAll_mk1 (shut_bool Try.underlying4 _), (trodAll_cons_mk (Below.trod laidOut (by kernel_rfl) (of_decide_eq_true (by kernel_rfl)) k0 bel lt0) (trodAll_cons_mk (shut_int Try.underlying3 w1) (trodAll_cons_mk (Below.trod laidOut (by kernel_rfl) (of_decide_eq_true (by kernel_rfl)) k2 bel lt2) trodAll_mk0))), rfl, bel.frame _, fun h => by cases h⟩
theorem over : Rows.histAnyRow.holds Try.pinned (OpenSpec.ofChange Rows.histAnySpec) :=
  OpenClaim.holds_of_wide 9 Try.f9 rfl rfl rfl rfl rfl rfl rfl ⟨rfl, rfl, rfl, rfl, rfl⟩ rfl rfl rfl rfl rfl (by kernel_rfl) Try.func9 (by kernel_rfl)
    (of_decide_eq_true (by kernel_rfl)) (by unfold Func.isWrapper; first | (rw [if_pos (by decide +kernel)]; kernel_rfl) | (rw [if_neg (by decide +kernel)]; exact ⟨rfl, rfl⟩))
    (fun os started H enc _ => lifted os started H enc)
end Go.Proofs.Ytdpkpibcjbllcaa.HistAny
namespace Go.Proofs.Ytdpkpibcjbllcaa
/-- The row. -/
theorem HistAny_holds : Rows.HistAnySaid := HistAny.over
#print axioms HistAny_holds
end Go.Proofs.Ytdpkpibcjbllcaa
