/-
  Texts of one hand, laid together: LawPiqueOrder.
-/
import Derived.Test.YtemkloildadokaaZD
import Derived.Test.YtemkloildadokaaZO
import Derived.Test.YtemkloildadokaaZE
import Derived.Test.YtemkloildadokaaZG
import Derived.Test.YtemkloildadokaaRows
import Derived.ProofKit
import Derived.OpenShut
import Derived.ShutString
import Derived.ChangeOld
import Derived.SizedLaws
set_option linter.unusedVariables false
set_option linter.unusedSimpArgs false
/-! A line does not remember how it came to be: its steps that bring, put in in any order, and then its steps that take in any order, make it; what is taken out and put in again leaves nothing behind; and the chapter's examples are as they are stated. -/
namespace Go.Proofs.Ytemkloildadokaa
open Go.RowKit Go.Shelf Go.Proofs.YtemkloildadokaaW.PrintWords
theorem lib_DeleteG0 (h0 : Nat) (v : Value) (l : List PStep) (w : World) (ho : Own kPStep 36 w h0 v l) (hi : 0 < l.length) (hl : l.length ≤ 60) (hh : h0 ≤ w.heap.size) :
    Calls Try.prog 35 #[v, .int .i64 0, .int .i64 1] w fun e w' => ∃ v1, e = .returned v1 ∧ Own kPStep 36 w' h0 v1 (withoutE l 0) ∧ w.grownBy w' v.ownBlock ∧ v1.ownBlock = v.ownBlock := by
  have := lib_DeleteG h0 0 v l w ho hi hl hh
  simpa using this
/-- Between two rounds over what is done. -/
def OrdUp (l : List PStep) (k : Nat) (out : List PStep) : Prop := if k = 0 then out = [] else OrdAt l k out []
theorem OrdUp.enter {l out : List PStep} {k : Nat} (h : OrdUp l k out) (hk : k < 2) : OrdAt l ((k : Int) + 1) out (l.filter fun x => x.do_ == (k : Int) + 1) := by
  unfold OrdUp at h
  rcases k with _ | k
  · rw [if_pos rfl] at h; subst h; exact OrdAt.start l
  · obtain rfl : k = 0 := by omega
    rw [if_neg (by decide)] at h
    exact h.turn
theorem OrdUp.leave {l out : List PStep} {k : Nat} (h : OrdAt l ((k : Int) + 1) out []) : OrdUp l (k + 1) out := by
  unfold OrdUp
  rw [if_neg (by omega)]
  exact h
structure OrdUS (n0 : Nat) (l : List PStep) (d : Int) (i : Nat) (vl vo : Value) (wr : World) : Prop where
  ex : ∃ out left : List PStep, i + left.length ≤ 60 ∧ OrdAt l d out left ∧ Own kPStep 36 wr n0 vl left ∧ Own kPStep 36 wr n0 vo out ∧ (∀ k, vo.ownBlock = some k → some k ≠ vl.ownBlock)
set_option maxRecDepth 100000 in
set_option maxHeartbeats 16000000 in
theorem law_order (l : List PStep) (A : Option Addr) (c : Nat) (bs : List Int) (Bb : Option Addr) (cb : Nat) (w : World) (hr : PStepRow w A l.length l) (hc : l.length ≤ c) (hs : l.length * 24 ≤ 140737488351232) (hb : BytesRow w Bb bs.length bs) (hcb : bs.length ≤ cb) (hzb : True) :
    Calls Try.prog 9 #[.slice A l.length c, .slice Bb bs.length cb] w fun e w' => e = .returned (.bool true) ∧ Below w.heap.size w w' := by
  have hmx : bs.length ≤ 9223372036854775807 := hb.1.2.1
  have HR := Lib.hid hr
  have Hbs := Lib.hid hb
  clear hr hb hzb
  cases hl : lineB l with
  | false =>
    have HL := Lib.hid hl
    clear hl
    go_enter Try.func9, Try.ntmps9
    go_wp2_with (first
      | (go_at_call 34; (with_reducible refine (r_Good A l.length c l w rfl HR.out).mono ?_); rintro e w2 ⟨rfl, hb2⟩; simp only [HL.out])
      | (go_at_call 20; (with_reducible refine (known_true _).mono ?_); rintro e w9 ⟨rfl, hb9⟩))
    go_ret
    exact ⟨rfl, below_step hb2 hb9⟩
  | true =>
    have HL := Lib.hid hl
    have h60 : l.length ≤ 60 := (line_of hl).len
    clear hl
    go_enter Try.func9, Try.ntmps9
    go_upto_region 4 with (go_at_call 34; (with_reducible refine (r_Good A l.length c l w rfl HR.out).mono ?_); rintro e w2 ⟨rfl, hb2⟩; simp only [HL.out]; have Hb2 := Lib.hid hb2; clear hb2)
    have HX2 := Lib.hid (Cells.new w2 #[.int .i64 1, .int .i64 2] 34)
    have HB3 := Lib.hid (below_step Hb2.out (below_alloc (Below.refl w2.heap.size w2) (.cells #[.int .i64 1, .int .i64 2] 34)))
    go_wp2
    generalize w2.alloc (.cells #[.int .i64 1, .int .i64 2] 34) = w3 at HX2 HB3 ⊢
    go_loopw [30, 5] (fun i vo wr => ∃ k : Nat, k ≤ 2 ∧ i = .int .i64 k ∧ (∃ out, Hid (OrdUp l k out) ∧ Own kPStep 36 wr w3.heap.size vo out) ∧ Below w3.heap.size w3 wr) (fun i _ _ => 2 - (intOf i).toNat)
    case atStart => exact ⟨0, by omega, rfl, ⟨[], Lib.hid rfl, Kd.R_nil _ _ _ _ _⟩, Below.refl _ _⟩
    case round =>
      obtain ⟨k, hk, rfl, ⟨out, hU, hO⟩, hB⟩ := hrel
      have HO := Lib.hid hO
      have HBr := Lib.hid hB
      clear hO hB
      by_cases hlt : k < 2
      · have HE := Lib.hid (hU.out.enter hlt)
        obtain ⟨d, hd⟩ : ∃ d : Int, d = (k : Int) + 1 := ⟨_, rfl⟩
        have Hdk := Lib.hid hd
        have xk : wr.cell? ⟨w2.heap.size, k, none⟩ = some (.int .i64 d) := by
          have hx := HX2.out.later HBr.out
          rcases k with _ | k
          · rw [hd]; exact hx.cell 0 _ rfl
          · obtain rfl : k = 0 := by omega
            rw [hd]; exact hx.cell 1 _ rfl
        have Hadd := Lib.hid (add_plain w2.heap.size k)
        rw [← hd] at HE
        clear hd hU
        have hklt : (k : Int) < 2 := by omega
        obtain ⟨wq, hwq⟩ : ∃ wq, wq = wr := ⟨_, rfl⟩
        obtain ⟨vq, hvq⟩ : ∃ vq, vq = u5 := ⟨_, rfl⟩
        subst hwq hvq
        go_upto_region 8 with fail
        clear xk
        go_wp2
        go_loopw [36, 8] (fun i vl wr => ∃ j : Nat, j ≤ l.length ∧ i = .int .i64 j ∧ Own kPStep 36 wr wq.heap.size vl ((l.take j).filter fun x => x.do_ == d) ∧ Below wq.heap.size wq wr) (fun i _ _ => l.length - (intOf i).toNat)
        case atStart => exact ⟨0, Nat.zero_le _, rfl, Kd.R_nil _ _ _ _ _, Below.refl _ _⟩
        case round =>
          obtain ⟨j, hj, rfl, hP, hB⟩ := hrel
          have HP := Lib.hid hP
          have HBj := Lib.hid hB
          clear hP hB
          by_cases hlt2 : j < l.length
          · obtain ⟨s, ad, hd, htk, hget, rfl, e0, e1, e2⟩ := pstep_at (Kd.C_below HR.out (below_step HB3.out (HBr.out.trans (HBj.out.mono HBr.out.size)))) j hlt2
            have Htk := Lib.hid htk
            clear hd htk hget
            go_upto_region 11 with fail
            have HS := Lib.hid (Cells.new wr #[.int .i64 s.at_, .int .i64 s.do_, .int .i64 s.key] 36)
            have hba := below_alloc (Below.refl wr.heap.size wr) (.cells #[.int .i64 s.at_, .int .i64 s.do_, .int .i64 s.key] 36)
            have HO5 := Lib.hid (Kd.R_below HP.out hba)
            have HB5 := Lib.hid (below_step HBj.out hba)
            clear hba e0 e1 e2
            generalize wr.alloc (.cells #[.int .i64 s.at_, .int .i64 s.do_, .int .i64 s.key] 36) = w5 at HS HO5 HB5 ⊢
            have s0 := HS.out.cell 0 _ rfl
            have s1 := HS.out.cell 1 _ rfl
            have s2 := HS.out.cell 2 _ rfl
            cases hdo : (s.do_ == d)
            · have hsu := Lib.hid (show (l.take (j + 1)).filter (fun x => x.do_ == d) = (l.take j).filter (fun x => x.do_ == d) by rw [Htk.out, List.filter_append, List.filter_cons, hdo]; simp)
              go_wp2
              exact ⟨⟨j + 1, by omega, by go_num, by rw [hsu.out]; exact HO5.out, HB5.out⟩, by simp [intOf]; omega⟩
            · have hsu := Lib.hid (show (l.take (j + 1)).filter (fun x => x.do_ == d) = (l.take j).filter (fun x => x.do_ == d) ++ [s] by rw [Htk.out, List.filter_append, List.filter_cons, hdo]; simp)
              have hpl := Lib.hid (show ((l.take j).filter fun x => x.do_ == d).length ≤ 60 from Nat.le_trans (List.length_filter_le _ _) (by rw [List.length_take]; omega))
              go_wp2_with (at_builtin; refine Kd.R_append kPStep (w0 := w5) wq.heap.size rfl (.tmp 44) (.tmp 46) 22 36 zStep 24 rfl Try.underlying22 info_pstep rfl (by decide) (by omega) _ ((l.take j).filter fun x => x.do_ == d) s (pstepCells s) (fun _ => True) (fun _ => False) rfl rfl (kPStep_mkM _ _ _ _) (fun _ hk => hk.elim) (fun _ _ => trivial) HO5.out (Below.refl _ _) HB5.out.size (by have := hpl.out; omega) ?_; intro v10 w10 r1 r2 r3 r4; have HR10 := Lib.hid r1; clear r1 r3 r4)
              exact ⟨⟨j + 1, by omega, by go_num, by rw [hsu.out]; exact HR10.out, HB5.out.trans r2⟩, by simp [intOf]; omega⟩
          · have hjl : j = l.length := by omega
            have HP2 := Lib.hid (show Own kPStep 36 wr wq.heap.size u8 (l.filter fun x => x.do_ == d) by have := HP.out; rw [hjl, List.take_length] at this; exact this)
            have hO2 := Kd.R_below HO.out HBj.out
            have hne : ∀ k, vq.ownBlock = some k → some k ≠ u8.ownBlock := fun k e1 e2 => by
              obtain ⟨_, hq⟩ := Kd.R_own HO.out
              obtain ⟨_, hp⟩ := Kd.R_own HP2.out
              have a := own_lt hq k e1
              have b := own_base hp k e2.symm
              omega
            have HI := Lib.hid (show OrdUS w3.heap.size l d 0 u8 vq wr from ⟨⟨out, _, by have := HE.out.len; omega, HE.out, Kd.R_lower HP2.out HBr.out.size, hO2, hne⟩⟩)
            have HBp := Lib.hid (HBr.out.trans (HBj.out.mono HBr.out.size))
            clear HP HP2 HO HE hO2 hne hjl HBj
            obtain ⟨wp, hwp⟩ : ∃ wp, wp = wr := ⟨_, rfl⟩
            obtain ⟨vp, hvp⟩ : ∃ vp, vp = u8 := ⟨_, rfl⟩
            subst hwp hvp
            go_wp2
            go_loopw [11, 8, 5] (fun i vl vo wr => ∃ i' : Nat, i = .int .i64 i' ∧ OrdUS w3.heap.size l d i' vl vo wr ∧ Below w3.heap.size w3 wr) (fun i _ _ _ => 60 - (intOf i).toNat)
            case atStart => exact ⟨0, rfl, HI.out, HBp.out⟩
            case round =>
              clear HI HBp HBr
              obtain ⟨i, rfl, ⟨⟨o1, left, h1, h2, h3, h4, h5⟩⟩, hB⟩ := hrel
              have HOA := Lib.hid h2
              have HLf := Lib.hid h3
              have HOu := Lib.hid h4
              have Hne := Lib.hid h5
              have HBi := Lib.hid hB
              obtain ⟨Al, cl, rfl, hcl, hrl⟩ := own_reads' h3
              obtain ⟨Ao, co, rfl, hco, hro⟩ := own_reads' h4
              have HRl := Lib.hid hrl
              have HRo := Lib.hid hro
              have hil : i + left.length ≤ 60 := h1
              clear h2 h3 h4 h5 hB hrl hro h1
              by_cases hpos : 0 < left.length
              · have hposI : (0 : Int) < (left.length : Int) := by omega
                have hl60 : left.length ≤ 60 := by omega
                by_cases hib : i < bs.length
                · obtain ⟨z, adz, hz1, hz2, rfl, hz4⟩ := byte_at (Hbs.out.later (below_step HB3.out HBi.out)) i hib
                  obtain ⟨kk, hkk⟩ : ∃ kk, kk = z % left.length := ⟨_, rfl⟩
                  have hkl : kk < left.length := by rw [hkk]; exact Nat.mod_lt _ hpos
                  have hmod : (z : Int).tmod (left.length : Int) = (kk : Int) := by rw [hkk, Int.tmod_eq_emod_of_nonneg (by omega)]; omega
                  have hne0 : ((left.length : Int) == 0) = false := by simp only [beq_eq_false_iff_ne]; omega
                  have hibI : (i : Int) < (bs.length : Int) := by omega
                  clear hkk hz1
                  obtain ⟨s, ad, hd, htk, hget, hAl, e0, e1, e2⟩ := pstep_at HRl.out kk hkl
                  have hwk : IntKind.i64.wrap ((kk : Int) + 1) = (kk : Int) + 1 := IntWalk.i64_in _ (by omega)
                  subst hAl
                  have HNx := Lib.hid (HOA.out.next HL.out hget)
                  clear hd htk hget
                  have hins := p_Insert Ao co o1 s wr HRo.out
                  obtain ⟨r, hre⟩ : ∃ r, r = insertE o1 s := ⟨_, rfl⟩
                  rw [← hre] at hins HNx
                  have HIns := Lib.hid hins
                  have her := HNx.out.2.1
                  clear hins hre
                  go_upto_region 21 with (go_at_call 21; (with_reducible refine HIns.out.mono ?_); rintro e w6 ⟨⟨vo2, vt2, rfl, ho2, ht2⟩, hb2⟩; rw [her]; have HN6 := Lib.hid ho2; obtain ⟨B2, d2, rfl, hd2, hs2⟩ := own_reads' ht2; have HB6 := Lib.hid hb2; clear hb2 hs2 ho2 ht2)
                  clear e0 e1 e2 her
                  have hba := below_alloc (Below.refl w6.heap.size w6) (.cells #[.bool r.more, .slice B2 r.spans.length d2] 39)
                  have HN7 := Lib.hid (Kd.R_below HN6.out hba)
                  have HL7 := Lib.hid (Kd.R_below HLf.out (below_step HB6.out hba))
                  have HB7 := Lib.hid (HBi.out.trans (Below.mono (below_step HB6.out hba) HBi.out.size))
                  have Hlb := Lib.hid (show ∀ k, (Value.slice (some ad) left.length cl).ownBlock = some k → k < wr.heap.size from fun k hk => by obtain ⟨_, hq⟩ := Kd.R_own HLf.out; exact own_lt hq k hk)
                  clear hba HN6 HLf HB6
                  generalize w6.alloc (.cells #[.bool r.more, .slice B2 r.spans.length d2] 39) = w7 at HN7 HL7 HB7 ⊢
                  have hsz7 : w3.heap.size ≤ w7.heap.size := HB7.out.size
                  go_wp2_with (go_at_call 35; (with_reducible refine (lib_DeleteG w3.heap.size kk (.slice (some ad) left.length cl) left w7 HL7.out hkl hl60 hsz7).mono ?_); rintro e w8 ⟨v8, rfl, r1, r2, r3⟩; have HD1 := Lib.hid r1; have HD2 := Lib.hid r2; have HD3 := Lib.hid r3; clear r1 r2 r3)
                  have hwl : (withoutE left kk).length = left.length - 1 := len_without (by omega)
                  have hbase : ∀ k, vo2.ownBlock = some k → wr.heap.size ≤ k := fun k hk => by obtain ⟨_, hq⟩ := Kd.R_own HN7.out; exact own_base hq k hk
                  refine ⟨⟨i + 1, by go_num, ⟨⟨r.line, withoutE left kk, by omega, HNx.out.2.2, HD1.out, Kd.R_lower (Kd.R_bound HN7.out |> fun h => ?_) HBi.out.size, fun k hk => ?_⟩⟩, HB7.out.grown HD2.out hsz7 fun k hk => ?_⟩, by simp [intOf]; omega⟩
                  · exact Kd.R_mono (Kd.R_grown h HD2.out fun k hk e => by have := Hlb.out k e.symm; omega) fun _ _ => trivial
                  · rw [HD3.out]; intro e; have := Hlb.out k e.symm; have := hbase k hk; omega
                  · obtain ⟨_, hq⟩ := Kd.R_own HL7.out; exact own_base hq k hk
                · have hibI : ¬ (i : Int) < (bs.length : Int) := by omega
                  obtain ⟨s, ad, hd, htk, hget, hAl, e0, e1, e2⟩ := pstep_at HRl.out 0 hpos
                  rw [show ad.add (0 * 3) = ad by cases ad; simp [Addr.add]] at e0 e1 e2
                  subst hAl
                  have HNx := Lib.hid (HOA.out.next HL.out hget)
                  clear hd htk hget
                  have hins := p_Insert Ao co o1 s wr HRo.out
                  obtain ⟨r, hre⟩ : ∃ r, r = insertE o1 s := ⟨_, rfl⟩
                  rw [← hre] at hins HNx
                  have HIns := Lib.hid hins
                  have her := HNx.out.2.1
                  clear hins hre
                  go_upto_region 21 with (go_at_call 21; (with_reducible refine HIns.out.mono ?_); rintro e w6 ⟨⟨vo2, vt2, rfl, ho2, ht2⟩, hb2⟩; rw [her]; have HN6 := Lib.hid ho2; obtain ⟨B2, d2, rfl, hd2, hs2⟩ := own_reads' ht2; have HB6 := Lib.hid hb2; clear hb2 hs2 ho2 ht2)
                  clear e0 e1 e2 her
                  have hba := below_alloc (Below.refl w6.heap.size w6) (.cells #[.bool r.more, .slice B2 r.spans.length d2] 39)
                  have HN7 := Lib.hid (Kd.R_below HN6.out hba)
                  have HL7 := Lib.hid (Kd.R_below HLf.out (below_step HB6.out hba))
                  have HB7 := Lib.hid (HBi.out.trans (Below.mono (below_step HB6.out hba) HBi.out.size))
                  have Hlb := Lib.hid (show ∀ k, (Value.slice (some ad) left.length cl).ownBlock = some k → k < wr.heap.size from fun k hk => by obtain ⟨_, hq⟩ := Kd.R_own HLf.out; exact own_lt hq k hk)
                  clear hba HN6 HLf HB6
                  generalize w6.alloc (.cells #[.bool r.more, .slice B2 r.spans.length d2] 39) = w7 at HN7 HL7 HB7 ⊢
                  have hsz7 : w3.heap.size ≤ w7.heap.size := HB7.out.size
                  go_wp2_with (go_at_call 35; (with_reducible refine (lib_DeleteG0 w3.heap.size (.slice (some ad) left.length cl) left w7 HL7.out hpos hl60 hsz7).mono ?_); rintro e w8 ⟨v8, rfl, r1, r2, r3⟩; have HD1 := Lib.hid r1; have HD2 := Lib.hid r2; have HD3 := Lib.hid r3; clear r1 r2 r3)
                  have hwl : (withoutE left 0).length = left.length - 1 := len_without (by omega)
                  have hbase : ∀ k, vo2.ownBlock = some k → wr.heap.size ≤ k := fun k hk => by obtain ⟨_, hq⟩ := Kd.R_own HN7.out; exact own_base hq k hk
                  refine ⟨⟨i + 1, by go_num, ⟨⟨r.line, withoutE left 0, by omega, HNx.out.2.2, HD1.out, Kd.R_lower (Kd.R_bound HN7.out |> fun h => ?_) HBi.out.size, fun k hk => ?_⟩⟩, HB7.out.grown HD2.out hsz7 fun k hk => ?_⟩, by simp [intOf]; omega⟩
                  · exact Kd.R_mono (Kd.R_grown h HD2.out fun k hk e => by have := Hlb.out k e.symm; omega) fun _ _ => trivial
                  · rw [HD3.out]; intro e; have := Hlb.out k e.symm; have := hbase k hk; omega
                  · obtain ⟨_, hq⟩ := Kd.R_own HL7.out; exact own_base hq k hk
              · have hl0 : left = [] := List.eq_nil_of_length_eq_zero (by omega)
                have hposI : ¬ (0 : Int) < (left.length : Int) := by omega
                have HU2 := Lib.hid (show OrdUp l (k + 1) o1 from OrdUp.leave (by have := HOA.out; rw [hl0, Hdk.out] at this; exact this))
                clear hl0
                go_wp2
                exact ⟨⟨k + 1, by omega, by go_num, ⟨o1, HU2, HOu.out⟩, HBi.out⟩, by simp [intOf]; omega⟩
      · have hk2 : k = 2 := by omega
        obtain rfl : l = out := (OrdAt.done HL.out (by have := hU.out; rw [hk2] at this; exact this)).symm
        obtain ⟨Ao, co, rfl, hco, hro⟩ := own_reads' HO.out
        have HRo := Lib.hid hro
        have hkI : ¬ (k : Int) < 2 := by omega
        clear hU HO hro hk2 hlt
        go_wp2_with (go_at_call 36; (with_reducible refine (equal_steps l l Ao A co c wr HRo.out (Kd.C_below HR.out (below_step HB3.out HBr.out))).mono ?_); rintro e w4 ⟨he4, hb4⟩; have he5 : e = .returned (.bool true) := (by rw [he4]; simp); subst he5; have HB4 := Lib.hid (below_step HB3.out (below_step HBr.out hb4)); clear hb4 he4)
        clear HRo HBr HB3 HX2 Hb2 hkI
        generalize hw5 : w4 = w2' at HB4 ⊢
        clear hw5 w4
        rename_i w4
        generalize hw5 : w2' = w2q at HB4 ⊢
        clear hw5
        go_loopw [91] (fun i wr => ∃ j : Nat, j ≤ l.length ∧ i = .int .i64 j ∧ Below w2q.heap.size w2q wr) (fun i _ => l.length - (intOf i).toNat)
        case atStart => exact ⟨0, Nat.zero_le _, rfl, Below.refl _ _⟩
        case round =>
          obtain ⟨j, hj, rfl, hB⟩ := hrel
          have HBj := Lib.hid hB
          clear hB
          by_cases hlt : j < l.length
          · obtain ⟨s, ad, hd, htk, hget, rfl, e0, e1, e2⟩ := pstep_at (Kd.C_below HR.out (HB4.out.trans (HBj.out.mono HB4.out.size))) j hlt
            have hj1 : j + 1 ≤ l.length := hlt
            obtain ⟨hbk1, hbk2⟩ := order_back HL.out hget
            have HBk1 := Lib.hid hbk1
            have HBk2 := Lib.hid hbk2
            clear hd htk hget hbk1 hbk2
            go_upto_region 31 with fail
            have HS := Lib.hid (Cells.new wr #[.int .i64 s.at_, .int .i64 s.do_, .int .i64 s.key] 36)
            have hba := below_alloc (Below.refl wr.heap.size wr) (.cells #[.int .i64 s.at_, .int .i64 s.do_, .int .i64 s.key] 36)
            have HB5 := Lib.hid (below_step HBj.out hba)
            clear hba e0 e1 e2
            generalize wr.alloc (.cells #[.int .i64 s.at_, .int .i64 s.do_, .int .i64 s.key] 36) = w5 at HS HB5 ⊢
            have HR5 := Lib.hid (Kd.C_below HR.out (HB4.out.trans (HB5.out.mono HB4.out.size)))
            have s0 := HS.out.cell 0 _ rfl
            have s1 := HS.out.cell 1 _ rfl
            have s2 := HS.out.cell 2 _ rfl
            have hdel := p_Delete (some ad) c l s.at_ w5 HR5.out
            obtain ⟨r, hre⟩ : ∃ r, r = deleteE l s.at_ := ⟨_, rfl⟩
            rw [← hre] at hdel HBk1 HBk2
            have HDel := Lib.hid hdel
            clear hdel hre
            go_upto_region 32 with (go_at_call 25; (with_reducible refine HDel.out.mono ?_); rintro e w6 ⟨⟨vo2, vt2, rfl, ho2, ht2⟩, hb2⟩; obtain ⟨A2, c2, rfl, hc2, hr2⟩ := own_reads' ho2; obtain ⟨B2, d2, rfl, hd2, hs2⟩ := own_reads' ht2; have HB6 := Lib.hid (below_step HB5.out hb2); have HS6 := Lib.hid (HS.out.later hb2); have HR6 := Lib.hid hr2; have HP6 := Lib.hid hs2; clear hb2 hr2 hs2 ho2 ht2)
            clear s0 s1 s2
            have HX6 := Lib.hid (Cells.new w6 #[.bool r.more, .slice B2 r.spans.length d2] 39)
            have hba := below_alloc (Below.refl w6.heap.size w6) (.cells #[.bool r.more, .slice B2 r.spans.length d2] 39)
            have HB7 := Lib.hid (below_step HB6.out hba)
            have HS7 := Lib.hid (HS6.out.later hba)
            have HR7 := Lib.hid (Kd.C_below HR6.out hba)
            have HP7 := Lib.hid (Kd.C_below HP6.out hba)
            clear hba HR6 HP6 HS6 HB6
            generalize w6.alloc (.cells #[.bool r.more, .slice B2 r.spans.length d2] 39) = w7 at HX6 HB7 HS7 HR7 HP7 ⊢
            have HRL := Lib.hid (Kd.C_below HR.out (HB4.out.trans (HB7.out.mono HB4.out.size)))
            obtain ⟨W, hW⟩ : ∃ W, W = withoutE l j := ⟨_, rfl⟩
            have PW := Lib.hid (r_Without (some ad) l.length c l j w7 rfl HRL.out hc (by omega) hlt)
            rw [← hW] at HBk1 HBk2 PW
            have hWl : W.length ≤ 60 := by rw [hW, len_without hlt]; omega
            clear hW
            cases hg : lineB W with
            | false =>
              have her := HBk1.out hg
              have Hg := Lib.hid hg
              clear hg HBk1 HBk2
              rw [her]
              go_wp2_with (first
                | (go_at_call 37; (with_reducible refine PW.out.mono ?_); rintro e w8 ⟨v8, rfl, ho8, hb8⟩; obtain ⟨A8, c8, rfl, hc8, hr8⟩ := own_reads' ho8; have HB8 := Lib.hid (below_step HB7.out hb8); have HR8 := Lib.hid hr8; clear ho8 hr8 hb8)
                | (go_at_call 34; (with_reducible refine (r_Good A8 W.length c8 W w8 rfl HR8.out).mono ?_); rintro e w9 ⟨rfl, hb9⟩; simp only [Hg.out]; have HB9 := Lib.hid (below_step HB8.out hb9); clear hb9))
              exact ⟨⟨j + 1, hj1, by go_num, HB9.out⟩, by simp [intOf]; omega⟩
            | true =>
              obtain ⟨b1, b2, b3, b4, b5, b6⟩ := HBk2.out hg
              have Hg := Lib.hid hg
              obtain ⟨q, hq⟩ : ∃ q, q = insertE W s := ⟨_, rfl⟩
              rw [← hq] at b3 b4 b5 b6
              have Hq := Lib.hid hq
              have HB2e := Lib.hid b2
              have HB4e := Lib.hid b4
              have HB6e := Lib.hid b6
              obtain ⟨m, hm⟩ : ∃ m, m = r.more := ⟨_, rfl⟩
              rw [← hm] at b5 HX6 ⊢
              have hmm : (m == !m) = false := by cases m <;> rfl
              have hlr : r.line.length = W.length := by rw [b2]
              have hls : q.spans.length = r.spans.length := by rw [b6]
              rw [b1, hlr]
              have HRx := Lib.hid (show PStepRow w7 A2 W.length W by have := HR7.out; rw [hlr, b2] at this; exact this)
              clear hg HBk1 HBk2 b1 b2 b4 b6 hq hm
              go_upto_region 35 with (first
                | (go_at_call 37; (with_reducible refine PW.out.mono ?_); rintro e w8 ⟨v8, rfl, ho8, hb8⟩; obtain ⟨A8, c8, rfl, hc8, hr8⟩ := own_reads' ho8; have HB8 := Lib.hid hb8; have HR8 := Lib.hid hr8; clear ho8 hr8 hb8)
                | (go_at_call 34; (with_reducible refine (r_Good A8 W.length c8 W w8 rfl HR8.out).mono ?_); rintro e w9 ⟨rfl, hb9⟩; simp only [Hg.out]; have HB9 := Lib.hid (below_step HB8.out hb9); clear hb9))
              have HS9 := Lib.hid (HS7.out.later HB9.out)
              have HR9 := Lib.hid (Kd.C_below HRx.out HB9.out)
              have hins := p_Insert A2 c2 W s w9 HR9.out
              rw [← Hq.out] at hins
              have HIns := Lib.hid hins
              have s0 := HS9.out.cell 0 _ rfl
              have s1 := HS9.out.cell 1 _ rfl
              have s2 := HS9.out.cell 2 _ rfl
              clear hins
              go_upto_region 36 with (go_at_call 21; (with_reducible refine HIns.out.mono ?_); rintro e w10 ⟨⟨vo3, vt3, rfl, ho3, ht3⟩, hb3⟩; rw [b3, b5]; rw [HB4e.out] at ho3; obtain ⟨A3, c3, rfl, hc3, hr3⟩ := own_reads' ho3; obtain ⟨B3, d3, rfl, hd3, hs3⟩ := own_reads' ht3; have HB10 := Lib.hid (below_step HB9.out hb3); have HR10 := Lib.hid hr3; have HP10 := Lib.hid hs3; clear hb3 hr3 hs3 ho3 ht3)
              clear s0 s1 s2 b3 b5
              have HX10 := Lib.hid (Cells.new w10 #[.bool (!m), .slice B3 r.spans.length d3] 39)
              have hba := below_alloc (Below.refl w10.heap.size w10) (.cells #[.bool (!m), .slice B3 r.spans.length d3] 39)
              have HB11 := Lib.hid (below_step HB10.out hba)
              have HR11 := Lib.hid (Kd.C_below HR10.out hba)
              have HP11 := Lib.hid (Kd.C_below HP10.out hba)
              clear hba HR10 HP10 HB10
              generalize w10.alloc (.cells #[.bool (!m), .slice B3 r.spans.length d3] 39) = w11 at HX10 HB11 HR11 HP11 ⊢
              have hx6 := HX6.out.later HB11.out
              have x0 := hx6.cell 0 _ rfl
              have x1 := hx6.cell 1 _ rfl
              have y0 := HX10.out.cell 0 _ rfl
              have y1 := HX10.out.cell 1 _ rfl
              have HPa := Lib.hid (Kd.C_below HP7.out HB11.out)
              have HPb := Lib.hid (show SpanRow w11 B3 r.spans.length r.spans by have := HP11.out; rw [hls, HB6e.out] at this; exact this)

              clear hls hlr
              go_wp2_with (first
                | (go_at_call 36; (with_reducible refine (equal_steps l l A3 (some ad) c3 c w11 HR11.out (Kd.C_below HRL.out HB11.out)).mono ?_); rintro e w12 ⟨he4, hb4⟩; have he5 : e = .returned (.bool true) := (by rw [he4]; simp); subst he5; have HB12 := Lib.hid (below_step HB7.out (below_step HB11.out hb4)); have x0 := cell_keep hb4 x0; have x1 := cell_keep hb4 x1; have y0 := cell_keep hb4 y0; have y1 := cell_keep hb4 y1; have HPc := Lib.hid (Kd.C_below HPa.out hb4); have HPd := Lib.hid (Kd.C_below HPb.out hb4); clear hb4 he4)
                | (go_at_call 38; (with_reducible refine (equal_spans r.spans r.spans B2 B3 d2 d3 w12 HPc.out HPd.out).mono ?_); rintro e w13 ⟨he4, hb4⟩; have he5 : e = .returned (.bool true) := (by rw [he4]; simp); subst he5; have HB13 := Lib.hid (below_step HB12.out hb4); clear hb4 he4))
              exact ⟨⟨j + 1, hj1, by go_num, HB13.out⟩, by simp [intOf]; omega⟩
          · go_wp2_with (go_at_call 20; (with_reducible refine (known_true _).mono ?_); rintro e w12 ⟨rfl, hb12⟩)
            go_ret
            exact ⟨rfl, below_step (HB4.out.trans (HBj.out.mono HB4.out.size)) hb12⟩
end Go.Proofs.Ytemkloildadokaa
namespace Go.Proofs.Ytemkloildadokaa.PiqueOrder
open Go.ChangeShapes Go.WideShapes Go.ChangeAt Go.RowKit
open Go.ChangeMaps (open_string shut_string)
theorem own : ownKnob Try.prog.godebug = none := by kernel_rfl
theorem laidOut : laidOutB Try.prog = true := by kernel_rfl
set_option maxRecDepth 100000 in
theorem lifted (os : Os) (started : os.Started) (H : Type) (enc : TypeId × Value → H) :
    ReturnsInHanded {} Try.checked os 9 .any (Rows.piqueOrderSpec.pre6 enc Try.prog Try.f9 Rows.piqueOrderRow.domain false) (Rows.piqueOrderSpec.post enc Try.prog Try.f9 false true false false) := by
  refine returnsInHanded_of_change_sized (C := Try.checked) own started (by kernel_rfl) Try.func9
    (ChangeSpec.witness6 (enc := enc) (C := Try.checked) false ⟨#[], #[.slice none 0 0, .slice none 0 0], []⟩ 8 (by kernel_rfl) (by kernel_rfl) (by kernel_rfl) (by kernel_rfl)) ?_
  intro W base args ds gs before hval0 hW hcnd hsz0 _
  have hsz : (DataW.weightsEach Try.prog (Try.f9.params.toList ++ Rows.piqueOrderSpec.plain.varTypes Try.prog) (ds ++ gs)).all (· ≤ reachBytes) = true := hsz0
  have hval : ∀ (j : Nat) t v, Try.f9.params[j]? = some t → args[j]? = some v → Value.okWide Try.prog W .any base t v := hval0
  have hW' := hW
  obtain ⟨p, q, hA0, hV, rfl, hfz, hnd⟩ := hW
  have hA : DataW.TrodAll enc Try.prog W 0 (fun _ => true) true Try.f9.params.toList args.toList ds p := hA0
  rw [Try.params9] at hA hval hsz
  obtain ⟨v0, vs0, d0, ds0, p0, q0, hargs, rfl, rfl, h0, r0⟩ := trodAll_cons hA
  obtain ⟨v1, vs1, d1, ds1, p1, q1, rfl, rfl, rfl, h1, r1⟩ := trodAll_cons r0
  obtain ⟨rfl, rfl, rfl⟩ := trodAll_nil r1
  obtain rfl : args = #[v0, v1] := by cases args; simp_all
  obtain ⟨rfl, rfl⟩ := trodVars_none hV
  obtain ⟨a0, len0, cap0, rfl⟩ := okWide_slice Try.underlying22 (hval 0 22 v0 rfl rfl)
  have k0 := h0
  have lt0 : ∀ x ∈ p0, x.block < W.heap.size := by obtain ⟨m, hm⟩ := k0; exact DataW.trod_lt m _ _ _ hm
  have y0 := sized_psteps hsz (j := 0) rfl rfl h0
  have w0 : len0 ≤ cap0 ∧ ∃ l, l.length = len0 ∧ PStepRow W a0 l.length l := by
    obtain ⟨fuel, hf⟩ := h0
    obtain ⟨A, len, cap, l, hcs, hlc, hl, hr⟩ := open_psteprow hf
    simp [Value.cells] at hcs
    obtain ⟨rfl, rfl, rfl⟩ := hcs
    exact ⟨hlc, l, hl, hr⟩
  obtain ⟨hc0, l0, rfl, hr0⟩ := w0
  obtain ⟨a1, len1, cap1, rfl⟩ := okWide_slice Try.underlying51 (hval 1 51 v1 rfl rfl)
  have k1 := h1
  have lt1 : ∀ x ∈ p1, x.block < W.heap.size := by obtain ⟨m, hm⟩ := k1; exact DataW.trod_lt m _ _ _ hm
  have y1 : True := trivial
  have w1 : len1 ≤ cap1 ∧ ∃ l, l.length = len1 ∧ BytesRow W a1 l.length l := by
    obtain ⟨fuel, hf⟩ := h1
    obtain ⟨A, len, cap, l, hcs, hlc, hl, hr⟩ := open_bytesrow hf
    simp [Value.cells] at hcs
    obtain ⟨rfl, rfl, rfl⟩ := hcs
    exact ⟨hlc, l, hl, hr⟩
  obtain ⟨hc1, l1, rfl, hr1⟩ := w1
  clear hA0 hval0 hsz0 hsz
  refine (law_order l0 a0 cap0 l1 a1 cap1 W hr0 hc0 y0 hr1 hc1 y1).mono fun e W' ⟨he, bel⟩ => ?_
  subst he
  exact ⟨_, rfl, _, _, _, [], _, [], hW', trodAll_mk1 (shut_bool Try.underlying4 _), (trodAll_cons_mk (Below.trod laidOut (by kernel_rfl) (of_decide_eq_true (by kernel_rfl)) k0 bel lt0) (trodAll_cons_mk (Below.trod laidOut (by kernel_rfl) (of_decide_eq_true (by kernel_rfl)) k1 bel lt1) trodAll_mk0)), rfl, bel.frame _, fun h => by cases h⟩
theorem over : Rows.piqueOrderRow.holds Try.pinned (OpenSpec.ofChange Rows.piqueOrderSpec) :=
  OpenClaim.holds_of_wide 9 Try.f9 rfl rfl rfl rfl rfl rfl rfl ⟨rfl, rfl, rfl, rfl, rfl⟩ rfl rfl rfl rfl rfl (by kernel_rfl) Try.func9 (by kernel_rfl)
    (of_decide_eq_true (by kernel_rfl)) (by unfold Func.isWrapper; first | (rw [if_pos (by decide +kernel)]; kernel_rfl) | (rw [if_neg (by decide +kernel)]; exact ⟨rfl, rfl⟩))
    (fun os started H enc _ => lifted os started H enc)
end Go.Proofs.Ytemkloildadokaa.PiqueOrder
namespace Go.Proofs.Ytemkloildadokaa
/-- The row. -/
theorem PiqueOrder_holds : Rows.PiqueOrderSaid := PiqueOrder.over
#print axioms PiqueOrder_holds
end Go.Proofs.Ytemkloildadokaa
