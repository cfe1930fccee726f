/-
  Texts of one hand, laid together: LawJoins.
-/
import Derived.Test.YtdpkpibcjbllcaaZR
import Derived.Test.YtdpkpibcjbllcaaZH
import Derived.Test.YtdpkpibcjbllcaaRows
import Derived.ProofKit
import Derived.OpenShut
import Derived.ShutString
import Derived.ChangeOld
import Derived.SizedLaws
set_option linter.unusedVariables false
set_option linter.unusedSimpArgs false
/-! HistJoins. -/
namespace Go.Proofs.Ytdpkpibcjbllcaa
open Go.RowKit Go.Proofs.YtdpkpibcjbllcaaW.PrintWords

theorem own_cap {α : Type} {d : Kd α} {e base n c : Nat} {w : World} {A : Option Addr} {xs : List α} (h : Own d e w base (.slice A n c) xs) : xs.length ≤ c := by
  obtain ⟨A', c', hv, hle, _⟩ := own_reads' h
  injection hv with _ _ e3
  omega
theorem hist_LeastF (l : List News) (A : Option Addr) (c : Nat) (srcs : Int) (w : World) (hr : NewsRow w A l.length l) (hc : l.length ≤ c) (hf : formedB l srcs = true) :
    Calls Try.prog 21 #[.slice A l.length c, .int .i64 srcs] w (OwnE kNews 38 (leastR l) 0 w) := by
  refine (hist_Least l A c srcs w hr hc).mono ?_
  rintro e w' ⟨v, ys, rfl, hO, h1, h2, hb⟩
  rw [least_one (GoodAll.of hf) ys (h1 hf)] at hO
  rw [hf]
  exact OwnE.of hO hb
/-- What the law's calls give. -/
structure JoinCalls (a b c x z p q lst : List News) (A B C : Option Addr) (ca cb cc : Nat) (e i e2 f2 srcs : Int) (w : World) : Prop where
  f1 : ∀ W, Below w.heap.size w W → Calls Try.prog 28 #[.slice A a.length ca, .int .i64 srcs] W fun r W' => r = .returned (.bool true) ∧ Below W.heap.size W W'
  f2' : ∀ W, Below w.heap.size w W → Calls Try.prog 28 #[.slice B b.length cb, .int .i64 srcs] W fun r W' => r = .returned (.bool true) ∧ Below W.heap.size W W'
  f3 : ∀ W, Below w.heap.size w W → Calls Try.prog 28 #[.slice C c.length cc, .int .i64 srcs] W fun r W' => r = .returned (.bool true) ∧ Below W.heap.size W W'
  m1 : ∀ W, Below w.heap.size w W → Calls Try.prog 37 #[.slice A a.length ca, .slice B b.length cb, .int .i64 srcs] W (OwnE kNews 38 x e W)
  m2 : ∀ W, Below w.heap.size w W → Calls Try.prog 37 #[.slice B b.length cb, .slice A a.length ca, .int .i64 srcs] W (OwnE kNews 38 x e W)
  m3 : ∀ W, Below w.heap.size w W → Calls Try.prog 37 #[.slice A a.length ca, .slice A a.length ca, .int .i64 srcs] W (OwnE kNews 38 lst 0 W)
  l1 : ∀ W, Below w.heap.size w W → Calls Try.prog 21 #[.slice A a.length ca, .int .i64 srcs] W (OwnE kNews 38 lst 0 W)
  m4 : ∀ W, Below w.heap.size w W → Calls Try.prog 37 #[.slice B b.length cb, .slice C c.length cc, .int .i64 srcs] W (OwnE kNews 38 z i W)
  m5 : ∀ W X cx, Below w.heap.size w W → NewsRow W X x.length x → x.length ≤ cx → Calls Try.prog 37 #[.slice X x.length cx, .slice C c.length cc, .int .i64 srcs] W (OwnE kNews 38 p e2 W)
  m6 : ∀ W Z cz, Below w.heap.size w W → NewsRow W Z z.length z → z.length ≤ cz → Calls Try.prog 37 #[.slice A a.length ca, .slice Z z.length cz, .int .i64 srcs] W (OwnE kNews 38 q f2 W)
set_option maxRecDepth 100000 in
set_option maxHeartbeats 8000000 in
theorem joins_walk (a b c x z p q lst : List News) (A B C : Option Addr) (ca cb cc : Nat) (e i e2 f2 srcs : Int) (w : World) (h : JoinCalls a b c x z p q lst A B C ca cb cc e i e2 f2 srcs w)
    (he : e = 7 ∨ e = 3 ∨ e = 0) (hi : i = 7 ∨ i = 3 ∨ i = 0) (he2 : e2 = 7 ∨ e2 = 3 ∨ e2 = 0 ∨ e ≠ 0 ∨ i ≠ 0) (hf2 : f2 = 7 ∨ f2 = 3 ∨ f2 = 0 ∨ e ≠ 0 ∨ i ≠ 0) (hpq : e = 0 → i = 0 → e2 = 0 → f2 = 0 → p = q) :
    Calls Try.prog 10 #[.slice A a.length ca, .slice B b.length cb, .slice C c.length cc, .int .i64 srcs] w fun e w' => e = .returned (.bool true) ∧ Below w.heap.size w w' := by
  have H := Lib.hid h
  clear h
  by_cases hei : e = 0 ∧ i = 0
  · obtain ⟨rfl, rfl⟩ := hei
    have he2' : e2 = 7 ∨ e2 = 3 ∨ e2 = 0 := by omega
    have hf2' : f2 = 7 ∨ f2 = 3 ∨ f2 = 0 := by omega
    have Hpq := Lib.hid (fun h1 h2 => hpq rfl rfl h1 h2)
    clear he hi he2 hf2 hpq
    rcases he2' with rfl | rfl | rfl <;> rcases hf2' with rfl | rfl | rfl
    all_goals
      try (have hpq' := Hpq.out rfl rfl; subst hpq')
      clear Hpq
      go_enter Try.func10, Try.ntmps10
      go_upto_region 3 with (first
        | (go_at_call 28; (with_reducible refine (H.out.f1 _ (Below.refl _ _)).mono ?_); rintro e w1 ⟨rfl, hb1⟩)
        | (go_at_call 28; (with_reducible refine (H.out.f2' _ hb1).mono ?_); rintro e w2 ⟨rfl, hb2⟩; have hB2 := below_step hb1 hb2)
        | (go_at_call 28; (with_reducible refine (H.out.f3 _ hB2).mono ?_); rintro e w3 ⟨rfl, hb3⟩; have hB3 := below_step hB2 hb3))
      go_upto_region 4 with (go_at_call 37; (with_reducible refine (H.out.m1 _ hB3).mono ?_); rintro e w4 ⟨A9, c9, rfl, hO9, hb4⟩; have hB4 := below_step hB3 hb4)
      have HR9 := Lib.hid (own_readsS hO9)
      have hc9 := own_cap hO9
      clear hO9
      go_upto_region 5 with (go_at_call 37; (with_reducible refine (H.out.m2 _ hB4).mono ?_); rintro e w5 ⟨A11, c11, rfl, hO11, hb5⟩; have hB5 := below_step hB4 hb5)
      have HR11 := Lib.hid (own_readsS hO11)
      have HR95 := Lib.hid (news_later HR9.out hb5)
      clear hO11 HR9
      go_upto_region 7 with (go_at_call 23; (with_reducible refine (same_news_self x _ _ _ _ _ HR95.out HR11.out).mono ?_); rintro e w6 ⟨rfl, hb6⟩; have hB6 := below_step hB5 hb6)
      have HR96 := Lib.hid (news_later HR95.out hb6)
      clear HR95 HR11
      go_upto_region 8 with (go_at_call 37; (with_reducible refine (H.out.m3 _ hB6).mono ?_); rintro e w7 ⟨A13, c13, rfl, hO13, hb7⟩; have hB7 := below_step hB6 hb7)
      have HR13 := Lib.hid (own_readsS hO13)
      clear hO13
      go_upto_region 9 with (go_at_call 21; (with_reducible refine (H.out.l1 _ hB7).mono ?_); rintro e w8 ⟨A15, c15, rfl, hO15, hb8⟩; have hB8 := below_step hB7 hb8)
      have HR15 := Lib.hid (own_readsS hO15)
      have HR138 := Lib.hid (news_later HR13.out hb8)
      clear hO15 HR13
      go_upto_region 11 with (go_at_call 23; (with_reducible refine (same_news_self lst _ _ _ _ _ HR138.out HR15.out).mono ?_); rintro e w9 ⟨rfl, hb9⟩; have hB9 := below_step hB8 hb9)
      clear HR138 HR15
      go_upto_region 14 with (go_at_call 37; (with_reducible refine (H.out.m4 _ hB9).mono ?_); rintro e w10 ⟨A17, c17, rfl, hO17, hb10⟩; have hB10 := below_step hB9 hb10)
      have HR17 := Lib.hid (own_readsS hO17)
      have hc17 := own_cap hO17
      have HR9a := Lib.hid (news_later HR96.out (below_step (below_step (below_step hb7 hb8) hb9) hb10))
      clear hO17 HR96
      go_upto_region 15 with (go_at_call 37; (with_reducible refine (H.out.m5 _ _ _ hB10 HR9a.out hc9).mono ?_); rintro e w11 ⟨A19, c19, rfl, hO19, hb11⟩; have hB11 := below_step hB10 hb11)
      have HR19 := Lib.hid (own_readsS hO19)
      have HR17b := Lib.hid (news_later HR17.out hb11)
      clear hO19 HR17 HR9a
      go_upto_region 16 with (go_at_call 37; (with_reducible refine (H.out.m6 _ _ _ hB11 HR17b.out hc17).mono ?_); rintro e w12 ⟨A20, c20, rfl, hO20, hb12⟩; have hB12 := below_step hB11 hb12)
      have HR20 := Lib.hid (own_readsS hO20)
      have HR19b := Lib.hid (news_later HR19.out hb12)
      clear hO20 HR17b HR19
      go_wp2_with (first
        | (go_at_call 23; (with_reducible refine (same_news_self _ _ _ _ _ _ HR19b.out HR20.out).mono ?_); rintro e w13 ⟨rfl, hb13⟩; have hB12 := below_step hB12 hb13)
        | (go_at_call 18; (with_reducible refine (known_true _).mono ?_); rintro e w14 ⟨rfl, hb14⟩))
      go_ret
      exact ⟨rfl, below_step hB12 hb14⟩
  · have hne : (e != 0 || i != 0) = true := by
      simp only [Bool.or_eq_true, bne_iff_ne]
      omega
    clear he2 hf2 hpq
    rcases he with rfl | rfl | rfl <;> rcases hi with rfl | rfl | rfl
    all_goals first
      | (exfalso; exact hei ⟨rfl, rfl⟩)
      | skip
    all_goals
      clear hei hne
      go_enter Try.func10, Try.ntmps10
      go_upto_region 3 with (first
        | (go_at_call 28; (with_reducible refine (H.out.f1 _ (Below.refl _ _)).mono ?_); rintro e w1 ⟨rfl, hb1⟩)
        | (go_at_call 28; (with_reducible refine (H.out.f2' _ hb1).mono ?_); rintro e w2 ⟨rfl, hb2⟩; have hB2 := below_step hb1 hb2)
        | (go_at_call 28; (with_reducible refine (H.out.f3 _ hB2).mono ?_); rintro e w3 ⟨rfl, hb3⟩; have hB3 := below_step hB2 hb3))
      go_upto_region 4 with (go_at_call 37; (with_reducible refine (H.out.m1 _ hB3).mono ?_); rintro e w4 ⟨A9, c9, rfl, hO9, hb4⟩; have hB4 := below_step hB3 hb4)
      have HR9 := Lib.hid (own_readsS hO9)
      clear hO9
      go_upto_region 5 with (go_at_call 37; (with_reducible refine (H.out.m2 _ hB4).mono ?_); rintro e w5 ⟨A11, c11, rfl, hO11, hb5⟩; have hB5 := below_step hB4 hb5)
      have HR11 := Lib.hid (own_readsS hO11)
      have HR95 := Lib.hid (news_later HR9.out hb5)
      clear hO11 HR9
      go_upto_region 7 with (go_at_call 23; (with_reducible refine (same_news_self x _ _ _ _ _ HR95.out HR11.out).mono ?_); rintro e w6 ⟨rfl, hb6⟩; have hB6 := below_step hB5 hb6)
      clear HR95 HR11
      go_upto_region 8 with (go_at_call 37; (with_reducible refine (H.out.m3 _ hB6).mono ?_); rintro e w7 ⟨A13, c13, rfl, hO13, hb7⟩; have hB7 := below_step hB6 hb7)
      have HR13 := Lib.hid (own_readsS hO13)
      clear hO13
      go_upto_region 9 with (go_at_call 21; (with_reducible refine (H.out.l1 _ hB7).mono ?_); rintro e w8 ⟨A15, c15, rfl, hO15, hb8⟩; have hB8 := below_step hB7 hb8)
      have HR15 := Lib.hid (own_readsS hO15)
      have HR138 := Lib.hid (news_later HR13.out hb8)
      clear hO15 HR13
      go_upto_region 11 with (go_at_call 23; (with_reducible refine (same_news_self lst _ _ _ _ _ HR138.out HR15.out).mono ?_); rintro e w9 ⟨rfl, hb9⟩; have hB9 := below_step hB8 hb9)
      clear HR138 HR15
      go_wp2_with (first
        | (go_at_call 37; (with_reducible refine (H.out.m4 _ hB9).mono ?_); rintro e w10 ⟨A17, c17, rfl, hO17, hb10⟩; have hB10 := below_step hB9 hb10; clear hO17)
        | (go_at_call 18; (with_reducible refine (known_true _).mono ?_); rintro e w14 ⟨rfl, hb14⟩))
      go_ret
      exact ⟨rfl, below_step hB10 hb14⟩
set_option maxRecDepth 100000 in
set_option maxHeartbeats 1000000 in
theorem law_joins (a : List News) (A : Option Addr) (ca : Nat) (b : List News) (B : Option Addr) (cb : Nat) (c : List News) (C : Option Addr) (cc : Nat) (srcs : Int) (w : World) (hr : NewsRow w A a.length a) (hc : a.length ≤ ca) (hz : a.length * 56 ≤ 140737488351232)
    (hr2 : NewsRow w B b.length b) (hc2 : b.length ≤ cb) (hz2 : b.length * 56 ≤ 140737488351232) (hr3 : NewsRow w C c.length c) (hc3 : c.length ≤ cc) (hz3 : c.length * 56 ≤ 140737488351232) :
    Calls Try.prog 10 #[.slice A a.length ca, .slice B b.length cb, .slice C c.length cc, .int .i64 srcs] w fun e w' => e = .returned (.bool true) ∧ Below w.heap.size w w' := by
  cases h1 : formedB a srcs
  · have Hr := Lib.hid hr
    clear hr hr2 hr3
    go_enter Try.func10, Try.ntmps10
    go_wp2_with (first
      | (go_at_call 28; (with_reducible refine (ref_Formed a A ca srcs _ Hr.out hc).mono ?_); rintro e w1 ⟨rfl, hb1⟩)
      | (go_at_call 18; (with_reducible refine (known_true _).mono ?_); rintro e w14 ⟨rfl, hb14⟩))
    go_ret
    exact ⟨rfl, below_step hb1 hb14⟩
  · cases h2 : formedB b srcs
    · have Hr := Lib.hid hr
      have Hr2 := Lib.hid hr2
      clear hr hr2 hr3
      go_enter Try.func10, Try.ntmps10
      go_wp2_with (first
        | (go_at_call 28; (with_reducible refine (ref_Formed a A ca srcs _ Hr.out hc).mono ?_); rintro e w1 ⟨rfl, hb1⟩)
        | (go_at_call 28; (with_reducible refine (ref_Formed b B cb srcs _ (news_later Hr2.out hb1) hc2).mono ?_); rintro e w2 ⟨rfl, hb2⟩; have hB2 := below_step hb1 hb2)
        | (go_at_call 18; (with_reducible refine (known_true _).mono ?_); rintro e w14 ⟨rfl, hb14⟩))
      go_ret
      exact ⟨rfl, below_step hB2 hb14⟩
    · cases h3 : formedB c srcs
      · have Hr := Lib.hid hr
        have Hr2 := Lib.hid hr2
        have Hr3 := Lib.hid hr3
        clear hr hr2 hr3
        go_enter Try.func10, Try.ntmps10
        go_wp2_with (first
          | (go_at_call 28; (with_reducible refine (ref_Formed a A ca srcs _ Hr.out hc).mono ?_); rintro e w1 ⟨rfl, hb1⟩)
          | (go_at_call 28; (with_reducible refine (ref_Formed b B cb srcs _ (news_later Hr2.out hb1) hc2).mono ?_); rintro e w2 ⟨rfl, hb2⟩; have hB2 := below_step hb1 hb2)
          | (go_at_call 28; (with_reducible refine (ref_Formed c C cc srcs _ (news_later Hr3.out hB2) hc3).mono ?_); rintro e w3 ⟨rfl, hb3⟩; have hB3 := below_step hB2 hb3)
          | (go_at_call 18; (with_reducible refine (known_true _).mono ?_); rintro e w14 ⟨rfl, hb14⟩))
        go_ret
        exact ⟨rfl, below_step hB3 hb14⟩
      · refine joins_walk a b c (mergeR a b srcs).1 (mergeR b c srcs).1 (mergeR (mergeR a b srcs).1 c srcs).1 (mergeR a (mergeR b c srcs).1 srcs).1 (leastR a) A B C ca cb cc (mergeR a b srcs).2 (mergeR b c srcs).2 (mergeR (mergeR a b srcs).1 c srcs).2 (mergeR a (mergeR b c srcs).1 srcs).2 srcs w ?_ (merge_kinds h1 h2) (merge_kinds h2 h3) ?_ ?_ (fun e1 e2 e3 e4 => merge_assoc h1 h2 h3 e1 e2 e3 e4)
        · exact {
            f1 := fun W h => h1 ▸ ref_Formed a A ca srcs W (news_later hr h) hc
            f2' := fun W h => h2 ▸ ref_Formed b B cb srcs W (news_later hr2 h) hc2
            f3 := fun W h => h3 ▸ ref_Formed c C cc srcs W (news_later hr3 h) hc3
            m1 := fun W h => hist_Merge a b A B ca cb srcs W (news_later hr h) (news_later hr2 h) hc hc2
            m2 := fun W h => by rw [merge_comm h1 h2]; exact hist_Merge b a B A cb ca srcs W (news_later hr2 h) (news_later hr h) hc2 hc
            m3 := fun W h => by
              have := hist_Merge a a A A ca ca srcs W (news_later hr h) (news_later hr h) hc hc
              rw [merge_self h1] at this
              exact this
            l1 := fun W h => hist_LeastF a A ca srcs W (news_later hr h) hc h1
            m4 := fun W h => hist_Merge b c B C cb cc srcs W (news_later hr2 h) (news_later hr3 h) hc2 hc3
            m5 := fun W X cx h hx hcx => hist_Merge _ c X C cx cc srcs W hx (news_later hr3 h) hcx hc3
            m6 := fun W Z cz h hzr hcz => hist_Merge a _ A Z ca cz srcs W (news_later hr h) hzr hc hcz }
        · by_cases e1 : (mergeR a b srcs).2 = 0
          · have := merge_kinds (merge_ok h1 h2 e1).2.2 h3
            omega
          · omega
        · by_cases e1 : (mergeR b c srcs).2 = 0
          · have := merge_kinds h1 (merge_ok h2 h3 e1).2.2
            omega
          · omega
end Go.Proofs.Ytdpkpibcjbllcaa
namespace Go.Proofs.Ytdpkpibcjbllcaa.HistJoins
open Go.ChangeShapes Go.WideShapes Go.ChangeAt Go.RowKit
open Go.ChangeMaps (open_string shut_string)
theorem own : ownKnob Try.prog.godebug = none := by kernel_rfl
theorem laidOut : laidOutB Try.prog = true := by kernel_rfl
set_option maxRecDepth 100000 in
theorem lifted (os : Os) (started : os.Started) (H : Type) (enc : TypeId × Value → H) :
    ReturnsInHanded {} Try.checked os 10 .any (Rows.histJoinsSpec.pre6 enc Try.prog Try.f10 Rows.histJoinsRow.domain false) (Rows.histJoinsSpec.post enc Try.prog Try.f10 false true false false) := by
  refine returnsInHanded_of_change_sized (C := Try.checked) own started (by kernel_rfl) Try.func10
    (ChangeSpec.witness6 (enc := enc) (C := Try.checked) false ⟨#[], #[.slice none 0 0, .slice none 0 0, .slice none 0 0, .int .i64 0], []⟩ 8 (by kernel_rfl) (by kernel_rfl) (by kernel_rfl) (by kernel_rfl)) ?_
  intro W base args ds gs before hval0 hW hcnd hsz0 _
  have hsz : (DataW.weightsEach Try.prog (Try.f10.params.toList ++ Rows.histJoinsSpec.plain.varTypes Try.prog) (ds ++ gs)).all (· ≤ reachBytes) = true := hsz0
  have hval : ∀ (j : Nat) t v, Try.f10.params[j]? = some t → args[j]? = some v → Value.okWide Try.prog W .any base t v := hval0
  have hW' := hW
  obtain ⟨p, q, hA0, hV, rfl, hfz, hnd⟩ := hW
  have hA : DataW.TrodAll enc Try.prog W 0 (fun _ => true) true Try.f10.params.toList args.toList ds p := hA0
  rw [Try.params10] at hA hval hsz
  obtain ⟨v0, vs0, d0, ds0, p0, q0, hargs, rfl, rfl, h0, r0⟩ := trodAll_cons hA
  obtain ⟨v1, vs1, d1, ds1, p1, q1, rfl, rfl, rfl, h1, r1⟩ := trodAll_cons r0
  obtain ⟨v2, vs2, d2, ds2, p2, q2, rfl, rfl, rfl, h2, r2⟩ := trodAll_cons r1
  obtain ⟨v3, vs3, d3, ds3, p3, q3, rfl, rfl, rfl, h3, r3⟩ := trodAll_cons r2
  obtain ⟨rfl, rfl, rfl⟩ := trodAll_nil r3
  obtain rfl : args = #[v0, v1, v2, v3] := by cases args; simp_all
  obtain ⟨rfl, rfl⟩ := trodVars_none hV
  obtain ⟨a0, len0, cap0, rfl⟩ := okWide_slice Try.underlying22 (hval 0 22 v0 rfl rfl)
  have k0 := h0
  have lt0 : ∀ x ∈ p0, x.block < W.heap.size := by obtain ⟨m, hm⟩ := k0; exact DataW.trod_lt m _ _ _ hm
  have y0 := sized_news hsz (j := 0) rfl rfl h0
  have w0 : len0 ≤ cap0 ∧ ∃ l, l.length = len0 ∧ NewsRow W a0 l.length l := by
    obtain ⟨fuel, hf⟩ := h0
    obtain ⟨A, len, cap, l, hcs, hlc, hl, hr⟩ := open_newsrow hf
    simp [Value.cells] at hcs
    obtain ⟨rfl, rfl, rfl⟩ := hcs
    exact ⟨hlc, l, hl, hr⟩
  obtain ⟨hc0, l0, rfl, hr0⟩ := w0
  obtain ⟨a1, len1, cap1, rfl⟩ := okWide_slice Try.underlying22 (hval 1 22 v1 rfl rfl)
  have k1 := h1
  have lt1 : ∀ x ∈ p1, x.block < W.heap.size := by obtain ⟨m, hm⟩ := k1; exact DataW.trod_lt m _ _ _ hm
  have y1 := sized_news hsz (j := 1) rfl rfl h1
  have w1 : len1 ≤ cap1 ∧ ∃ l, l.length = len1 ∧ NewsRow W a1 l.length l := by
    obtain ⟨fuel, hf⟩ := h1
    obtain ⟨A, len, cap, l, hcs, hlc, hl, hr⟩ := open_newsrow hf
    simp [Value.cells] at hcs
    obtain ⟨rfl, rfl, rfl⟩ := hcs
    exact ⟨hlc, l, hl, hr⟩
  obtain ⟨hc1, l1, rfl, hr1⟩ := w1
  obtain ⟨a2, len2, cap2, rfl⟩ := okWide_slice Try.underlying22 (hval 2 22 v2 rfl rfl)
  have k2 := h2
  have lt2 : ∀ x ∈ p2, x.block < W.heap.size := by obtain ⟨m, hm⟩ := k2; exact DataW.trod_lt m _ _ _ hm
  have y2 := sized_news hsz (j := 2) rfl rfl h2
  have w2 : len2 ≤ cap2 ∧ ∃ l, l.length = len2 ∧ NewsRow W a2 l.length l := by
    obtain ⟨fuel, hf⟩ := h2
    obtain ⟨A, len, cap, l, hcs, hlc, hl, hr⟩ := open_newsrow hf
    simp [Value.cells] at hcs
    obtain ⟨rfl, rfl, rfl⟩ := hcs
    exact ⟨hlc, l, hl, hr⟩
  obtain ⟨hc2, l2, rfl, hr2⟩ := w2
  obtain ⟨a3, rfl, rfl, rfl, w3⟩ := open_int Try.underlying3 (hval 3 3 v3 rfl rfl) h3
  clear hA0 hval0 hsz0 hsz
  refine (law_joins l0 a0 cap0 l1 a1 cap1 l2 a2 cap2 a3 W hr0 hc0 y0 hr1 hc1 y1 hr2 hc2 y2).mono fun e W' ⟨he, bel⟩ => ?_
  subst he
  exact ⟨_, rfl, _, _, _, [], _, [], hW', trodAll_mk1 (shut_bool Try.underlying4 _), (trodAll_cons_mk (Below.trod laidOut (by kernel_rfl) (of_decide_eq_true (by kernel_rfl)) k0 bel lt0) (trodAll_cons_mk (Below.trod laidOut (by kernel_rfl) (of_decide_eq_true (by kernel_rfl)) k1 bel lt1) (trodAll_cons_mk (Below.trod laidOut (by kernel_rfl) (of_decide_eq_true (by kernel_rfl)) k2 bel lt2) (trodAll_cons_mk (shut_int Try.underlying3 w3) trodAll_mk0)))), rfl, bel.frame _, fun h => by cases h⟩
theorem over : Rows.histJoinsRow.holds Try.pinned (OpenSpec.ofChange Rows.histJoinsSpec) :=
  OpenClaim.holds_of_wide 10 Try.f10 rfl rfl rfl rfl rfl rfl rfl ⟨rfl, rfl, rfl, rfl, rfl⟩ rfl rfl rfl rfl rfl (by kernel_rfl) Try.func10 (by kernel_rfl)
    (of_decide_eq_true (by kernel_rfl)) (by unfold Func.isWrapper; first | (rw [if_pos (by decide +kernel)]; kernel_rfl) | (rw [if_neg (by decide +kernel)]; exact ⟨rfl, rfl⟩))
    (fun os started H enc _ => lifted os started H enc)
end Go.Proofs.Ytdpkpibcjbllcaa.HistJoins
namespace Go.Proofs.Ytdpkpibcjbllcaa
/-- The row. -/
theorem HistJoins_holds : Rows.HistJoinsSaid := HistJoins.over
#print axioms HistJoins_holds
end Go.Proofs.Ytdpkpibcjbllcaa
