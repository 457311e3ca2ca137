/- TellSteps: a mark that rises in steps tells what one that rises at once does, in the same row, and leaves the same. -/
import Derived.Test.YtmhbibcfbencnaaTeE
namespace Go.Proofs.Ytmhbibcfbencnaa
open Go.RowKit Go.Lib
set_option linter.unusedSimpArgs false
set_option linter.unusedVariables false
/-- The first j marks were given; ms is the greatest that may be, or the first one. -/
def StepI (ms : List Int) (mk0 : Int) (j : Nat) (m mk : Int) : Prop := (j = 0 ∧ ms[0]? = some m ∧ mk = mk0) ∨ (0 < j ∧ mk = upM mk0 m)
theorem StepI.step {ms : List Int} {mk0 : Int} {j : Nat} {m mk x : Int} (h : StepI ms mk0 j m mk) (hx : ms[j]? = some x) : StepI ms mk0 (j + 1) (if rightB x = true ∧ (rightB m = false ∨ m < x) then x else m) (upM mk x) := by
  refine .inr ⟨by omega, ?_⟩
  rcases h with ⟨rfl, h1, rfl⟩ | ⟨_, rfl⟩
  · rw [hx] at h1
    cases h1
    split <;> rfl
  · exact upM_most
set_option maxRecDepth 100000 in
set_option maxHeartbeats 4000000 in
theorem law_TellSteps (A : Option Addr) (l : List A4) (c : Nat) (hl : l.length ≤ 9223372036854775807) (hz : ∀ y ∈ l, A4.Wf y) (A2 : Option Addr) (ms : List Int) (c2 : Nat) (hl2 : ms.length ≤ 9223372036854775807) (hz2 : ∀ y ∈ ms, InR y) (w : World) (hA : A4Row w A l) (hI : IntsRow w A2 ms) :
    Calls Try.prog 6 #[.slice A l.length c, .slice A2 ms.length c2] w fun e w' => e = .returned (.bool true) ∧ Below w.heap.size w w' := by
  have HA := Lib.hid hA
  have HI := Lib.hid hI
  have hzm := Int.natCast_nonneg ms.length
  clear hA hI
  go_enter Try.func6, Try.ntmps6
  go_wp2_with (fail)
  refine (great10_any c (HA.out) hl hz).mono ?_
  rintro e w1 ⟨g, rfl, hg, rfl⟩
  cases g with
  | true =>
    go_wp2_with (fail)
    go_wp2_with (fail)
    refine (twakes_any _).mono ?_
    rintro e w2 ⟨rfl, hB2⟩
    have HBe := Lib.hid ((Below.refl w.heap.size w).trans (hB2.mono (Below.refl w.heap.size w).size))
    clear hB2
    go_wp2_with (fail)
    go_ret
    exact ⟨rfl, HBe.out⟩
  | false =>
    have h200 := (hg rfl).1
    clear hg
    by_cases h50 : 50 < ms.length
    · go_wp2_with (fail)
      go_wp2_with (fail)
      refine (twakes_any _).mono ?_
      rintro e w2 ⟨rfl, hB2⟩
      have HBe := Lib.hid ((Below.refl w.heap.size w).trans (hB2.mono (Below.refl w.heap.size w).size))
      clear hB2
      go_wp2_with (fail)
      go_ret
      exact ⟨rfl, HBe.out⟩
    by_cases h0 : ms.length = 0
    · have hb0 : ((ms.length : Int) == 0) = true := by rw [h0]; rfl
      clear h0
      go_wp2_with (fail)
      go_wp2_with (fail)
      refine (twakes_any _).mono ?_
      rintro e w2 ⟨rfl, hB2⟩
      have HBe := Lib.hid ((Below.refl w.heap.size w).trans (hB2.mono (Below.refl w.heap.size w).size))
      clear hB2
      go_wp2_with (fail)
      go_ret
      exact ⟨rfl, HBe.out⟩
    have hb0 : ((ms.length : Int) == 0) = false := by rw [beq_eq_false_iff_ne]; omega
    obtain ⟨m0, hm0⟩ : ∃ x, ms[0]? = some x := ⟨ms[0]'(by omega), List.getElem?_eq_getElem (by omega)⟩
    have HM0 := Lib.hid hm0
    have hpos : (0 : Int) < (ms.length : Int) := by omega
    have hz50 : (ms.length : Int) ≤ 50 := by omega
    clear h0 hm0
    go_wp2_with (fail)
    refine (tnew_any _).mono ?_
    rintro e w1 ⟨q, p, b, rfl, hL, hq, hp, hb, hB⟩
    have HA1 := Lib.hid (HA.out.below hB)
    have HI1 := Lib.hid (HI.out.keep (Keep.of_below hB []) (fun _ _ _ _ => by simp))
    have hf1 := HA.out.far hq
    have hf2 := HA.out.far hb
    have HF1 := Lib.hid (HI.out.far hq)
    have HF2 := Lib.hid (HI.out.far hb)
    have HB1 := Lib.hid hB
    have HN := Lib.hid (show w.heap.size ≤ q ∧ w.heap.size ≤ p ∧ w.heap.size ≤ b from ⟨hq, hp, hb⟩)
    clear hq hp hb hB
    go_wp2_with (fail)
    refine (plays10_any c hL (by simp) HA1.out hz h200 (fun h g off e => ⟨hf1 h g off e, hf2 h g off e⟩)).mono ?_
    rintro e w2 ⟨v2, rfl, hD, hL2, hK⟩
    have hok := LnOk.acts (told := []) LnOk.zero l hz
    obtain ⟨⟨mk0, L0, told⟩, hpl⟩ : ∃ r, plT (0, [], []) l = r := ⟨_, rfl⟩
    rw [hpl] at hD hL2 hok
    simp only at hok hL2
    have HOK := Lib.hid hok
    have HL2 := Lib.hid hL2
    have HI2 := Lib.hid (HI1.out.keep hK (fun hl g off e => by have := HF1.out hl g off e; have := HF2.out hl g off e; simp; omega))
    have HB2 := Lib.hid (HB1.out.trans (hK.below HB1.out.size (by have := HN.out; simp; omega)))
    obtain ⟨av2, cv2, rfl, _⟩ := own_shape hD
    clear hL hD hL2 hK hok hpl hf1 hf2 HA1 HI1 HB1
    go_wp2_with (fail)
    refine (ttwin_any HL2.out).mono ?_
    rintro e w3 ⟨q', p', b', rfl, hT, hq, hp, hb, hB⟩
    have HT3 := Lib.hid hT
    have HL3 := Lib.hid (HL2.out.below hB)
    have HI3 := Lib.hid (HI2.out.keep (Keep.of_below hB []) (fun _ _ _ _ => by simp))
    have HB3 := Lib.hid (HB2.out.trans (hB.mono HB2.out.size))
    have HN3 := Lib.hid (show w.heap.size ≤ q' ∧ w.heap.size ≤ b' ∧ q ≠ q' ∧ q ≠ b' ∧ p ≠ q' ∧ p ≠ b' ∧ b ≠ q' ∧ b ≠ b' ∧ q ≠ p' ∧ b ≠ p' from by have := HL2.out.lt; have := HB2.out.size; omega)
    have HLT := Lib.hid (show q < w3.heap.size ∧ b < w3.heap.size ∧ q' < w3.heap.size ∧ b' < w3.heap.size ∧ p < w3.heap.size ∧ p' < w3.heap.size from by have := HL3.out.lt; have := HT3.out.lt; omega)
    clear hT hq hp hb hB HL2 HI2 HB2
    obtain ⟨gi, oi, rfl, hgi, hat⟩ := HI3.out (by intro e; rw [e] at hpos; simp at hpos)
    have hx0 : w3.cell? ⟨gi, oi + 0 * 1, none⟩ = some (.int .i64 m0) := hat 0 m0 HM0.out
    rw [Nat.mul_one, Nat.add_zero] at hx0
    have HGI := Lib.hid (show gi ≠ q ∧ gi ≠ b from ⟨HF1.out (by intro e; rw [e] at hpos; simp at hpos) gi oi rfl, HF2.out (by intro e; rw [e] at hpos; simp at hpos) gi oi rfl⟩)
    clear hat HF1 HF2
    go_wp2_with (fail)
    clear hx0
    go_loopw [7, 8, 9] (fun v7 v8 i wr => ∃ (j : Nat) (m mk : Int) (vt : Value), .int .i64 m = v7 ∧ vt = v8 ∧ i = .int .i64 j ∧ j ≤ ms.length ∧ StepI ms mk0 j m mk ∧ mk0 ≤ mk ∧ LnAt wr q p b mk (restL mk L0) ∧ DocRow w3.heap.size wr vt (overL mk L0) ∧ Keep [q, b] w3 wr) (fun _ _ i _ => ms.length - (intOf i).toNat)
    case atStart =>
      have hn := over_none HOK.out.O
      exact ⟨0, m0, mk0, _, rfl, rfl, rfl, Nat.zero_le _, .inl ⟨rfl, HM0.out, rfl⟩, Int.le_refl _, by rw [hn.2]; exact HL3.out, by rw [hn.1]; exact World.ownsRow_nil _ _ _ _, Keep.refl _ _⟩
    case round =>
      clear HL3
      obtain ⟨j, m, mk, vt, rfl, rfl, rfl, hj, hst, hmk, hln, hdr, hk0⟩ := hrel
      have HST := Lib.hid hst
      have HLN := Lib.hid hln
      have HDR := Lib.hid hdr
      have HK := Lib.hid hk0
      obtain ⟨told, htd⟩ : ∃ x, overL mk L0 = x := ⟨_, rfl⟩
      rw [htd] at HDR hdr
      have HTD := Lib.hid htd
      obtain ⟨at_, ct, rfl, _⟩ := own_shape hdr
      have htl : told.length ≤ 32 := by rw [← htd]; exact Nat.le_trans (List.length_filter_le _ _) HOK.out.N
      have h0j : (0 : Int) ≤ (j : Int) := Int.natCast_nonneg j
      have hrl : (restL mk L0).length ≤ 1000 := by have := rest_len mk L0; have := HOK.out.N; omega
      by_cases hlt : j < ms.length
      · have hjn : (j : Int) < (ms.length : Int) := by omega
        obtain ⟨x, hx⟩ : ∃ x, ms[j]? = some x := ⟨ms[j], List.getElem?_eq_getElem hlt⟩
        obtain ⟨g', off', e1, hgi', hat⟩ := (HI3.out.keep hk0 (fun hl g off hq => by simp only [Option.some.injEq, Addr.mk.injEq] at hq; have := HGI.out; simp; omega)) (by intro e; rw [e] at hlt; simp at hlt)
        obtain ⟨rfl, rfl⟩ : gi = g' ∧ oi = off' := by simpa using e1
        have hx0 : wr.cell? ⟨gi, oi + j * 1, none⟩ = some (.int .i64 x) := hat j x hx
        rw [Nat.mul_one] at hx0
        have hup := tm_up HOK.out hmk x
        rw [htd] at hup
        have hsn := hst.step hx
        have hm := tmark_any hln hrl x
        have hrx := fun W => right_any x W
        have hrm := fun W => right_any m W
        obtain ⟨⟨e1', outs, mk1, L1⟩, hr⟩ : ∃ r, tmF mk (restL mk L0) x = r := ⟨_, rfl⟩
        rw [hr] at hup hm
        unfold MarkP at hm
        simp only at hup hm
        obtain ⟨rfl, hu2, rfl, hu4⟩ := hup
        obtain ⟨no, hno⟩ : ∃ n, outs.length = n := ⟨_, rfl⟩
        rw [hno] at hm
        have hnl : no ≤ 32 := by
          have h1 : (told ++ outs).length ≤ 32 := by rw [hu2]; exact Nat.le_trans (List.length_filter_le _ _) HOK.out.N
          rw [List.length_append, hno] at h1
          omega
        obtain ⟨rx, hrxe⟩ : ∃ y, rightB x = y := ⟨_, rfl⟩
        obtain ⟨rm, hrme⟩ : ∃ y, rightB m = y := ⟨_, rfl⟩
        rw [hrxe] at hrx hsn
        rw [hrme] at hrm hsn
        have HM := Lib.hid hm
        have HNO := Lib.hid hno
        have HU2 := Lib.hid hu2
        have HRX := Lib.hid hrx
        have HRM := Lib.hid hrm
        have HSN := Lib.hid hsn
        obtain ⟨mk1, hmk1⟩ : ∃ y, upM mk x = y := ⟨_, rfl⟩
        rw [hmk1] at HM HU2 HSN hu4
        have HAT := Lib.hid hx0
        have hxx := Lib.hid hx
        clear hat e1 hx0 hx hm hno hu2 hrx hrm hsn hr hst hln hdr hk0 hrxe hrme htd hmk1
        have hx0 := HAT.out
        go_wp2_with (fail)
        refine HM.out.mono ?_
        rintro e w4 ⟨A4, c4, rfl, hE, hL4, hk4⟩
        have HL4 := Lib.hid hL4
        have HV4 := Lib.hid (own_keep HDR.out hk4 (fun g hg => by have := own_base HDR.out g hg; have := HLT.out; simp; omega))
        have HK4 := Lib.hid (HK.out.trans hk4)
        have HE4 := Lib.hid hE
        clear hx0 HAT
        obtain ⟨g2, off2, e1, _, hat⟩ := (HI3.out.keep HK4.out (fun hl g off hq => by simp only [Option.some.injEq, Addr.mk.injEq] at hq; have := HGI.out; simp; omega)) (by intro e; rw [e] at hlt; simp at hlt)
        obtain ⟨rfl, rfl⟩ : gi = g2 ∧ oi = off2 := by simpa using e1
        have hx4 : w4.cell? ⟨gi, oi + j * 1, none⟩ = some (.int .i64 x) := hat j x hxx.out
        rw [Nat.mul_one] at hx4
        have HX4 := Lib.hid hx4
        clear hL4 hk4 hE HM HLN HDR HK hat e1 hx4
        obtain ⟨i0, hi0, hz0', hz1', hz2'⟩ := info_parts infoOt
        by_cases hne : outs = []
        · subst hne
          obtain rfl : 0 = no := HNO.out
          have HD4 : Hid (DocRow w3.heap.size w4 (.slice at_ told.length ct) (overL mk1 L0)) := Lib.hid (by rw [← HU2.out, List.append_nil]; exact HV4.out)
          have hx4 := HX4.out
          go_wp2_with (at_builtin; refine wpList_append_empty rfl _ _ 38 rfl w3.heap.size 33 i0 10 Try.underlying38 hi0 _ _ _ rfl HV4.out A4 c4 rfl ?_)
          cases rx with
          | false =>
            have HSS : Hid (StepI ms mk0 (j + 1) m mk1) := Lib.hid (by have h := HSN.out; rw [if_neg (by simp)] at h; exact h)
            go_wp2_with (fail)
            refine ((HRX.out _)).mono ?_
            rintro e w9 ⟨rfl, rfl⟩
            go_wp2_with (fail)
            go_roundw
            case rel => exact ⟨j + 1, m, mk1, _, rfl, rfl, by go_num, by omega, HSS.out, by omega, HL4.out, HD4.out, HK4.out⟩
            case measure => simp [intOf]; omega
          | true =>
            cases rm with
            | false =>
              have HSS : Hid (StepI ms mk0 (j + 1) x mk1) := Lib.hid (by have h := HSN.out; rw [if_pos (by simp)] at h; exact h)
              go_wp2_with (fail)
              refine ((HRX.out _)).mono ?_
              rintro e w9 ⟨rfl, rfl⟩
              go_wp2_with (fail)
              refine ((HRM.out _)).mono ?_
              rintro e w9 ⟨rfl, rfl⟩
              go_wp2_with (fail)
              go_roundw
              case rel => exact ⟨j + 1, x, mk1, _, rfl, rfl, by go_num, by omega, HSS.out, by omega, HL4.out, HD4.out, HK4.out⟩
              case measure => simp [intOf]; omega
            | true =>
              by_cases hmx : m < x
              · have HSS : Hid (StepI ms mk0 (j + 1) x mk1) := Lib.hid (by have h := HSN.out; rw [if_pos ⟨rfl, .inr hmx⟩] at h; exact h)
                go_wp2_with (fail)
                refine ((HRX.out _)).mono ?_
                rintro e w9 ⟨rfl, rfl⟩
                go_wp2_with (fail)
                refine ((HRM.out _)).mono ?_
                rintro e w9 ⟨rfl, rfl⟩
                go_wp2_with (fail)
                go_roundw
                case rel => exact ⟨j + 1, x, mk1, _, rfl, rfl, by go_num, by omega, HSS.out, by omega, HL4.out, HD4.out, HK4.out⟩
                case measure => simp [intOf]; omega
              · have HSS : Hid (StepI ms mk0 (j + 1) m mk1) := Lib.hid (by have h := HSN.out; rw [if_neg (fun g => g.2.elim (fun g => by cases g) hmx)] at h; exact h)
                go_wp2_with (fail)
                refine ((HRX.out _)).mono ?_
                rintro e w9 ⟨rfl, rfl⟩
                go_wp2_with (fail)
                refine ((HRM.out _)).mono ?_
                rintro e w9 ⟨rfl, rfl⟩
                go_wp2_with (fail)
                go_roundw
                case rel => exact ⟨j + 1, m, mk1, _, rfl, rfl, by go_num, by omega, HSS.out, by omega, HL4.out, HD4.out, HK4.out⟩
                case measure => simp [intOf]; omega
        · obtain ⟨g4, rfl, hg4, _, _⟩ := HE4.out hne
          have HRW := Lib.hid (HE4.out.row)
          have hno := HNO.out
          go_wp2_with (at_builtin; refine wpList_append_own_at _ rfl _ _ 38 rfl w3.heap.size 33 i0 (Ot.val ⟨ByteArray.empty, 0, Ag.zero⟩) 10 88 Try.underlying38 hi0 hz0' hz1' hz2' rfl (by decide) _ _ _ rfl HV4.out ⟨g4, 0, none⟩ no c4 (flatE Ot.enc outs) rfl (by rw [flatE_len otlen, hno]) ?c1 ?c2 ?c3 ?c4 ?c5 ?_)
          case c1 => exact ots_news HRW.out hne
          case c2 => exact flatE_one _
          case c3 => unfold maxLen; omega
          case c4 => omega
          case c5 => exact HK4.out.size
          clear hno
          intro v' w5 hown' hgrow _ _
          have kw : Keep (Value.slice at_ told.length ct).ownBlock.toList w4 w5 := (Keep.refl _ w4).grown hgrow (fun k hk => .inl (by simp [hk]))
          have hob : ∀ y, y < w3.heap.size → y ∉ (Value.slice at_ told.length ct).ownBlock.toList := fun y hy hm => by have := own_base HV4.out y (by simpa using hm); omega
          have HL5 := Lib.hid (HL4.out.keep kw (hob _ HLT.out.1) (hob _ HLT.out.2.2.2.2.1) (hob _ HLT.out.2.1))
          have HK5 := Lib.hid (HK4.out.step kw (fun y hy => .inr (by have := own_base HV4.out y (by simpa using hy); omega)))
          have HD5 : Hid (DocRow w3.heap.size w5 v' (overL mk1 L0)) := Lib.hid (by rw [← HU2.out]; unfold DocRow; rw [List.length_append, flatE_app, HNO.out]; exact hown')
          have hx5 : w5.cell? ⟨gi, oi + j, none⟩ = some (.int .i64 x) := (kw.cell _ (World.block_lt_of_cell? w4 _ HX4.out) (hob _ (by have := hgi; omega))).trans HX4.out
          clear hown' hgrow kw hob HV4 HL4 HK4 HX4
          cases rx with
          | false =>
            have HSS : Hid (StepI ms mk0 (j + 1) m mk1) := Lib.hid (by have h := HSN.out; rw [if_neg (by simp)] at h; exact h)
            go_wp2_with (fail)
            refine ((HRX.out _)).mono ?_
            rintro e w9 ⟨rfl, rfl⟩
            go_wp2_with (fail)
            go_roundw
            case rel => exact ⟨j + 1, m, mk1, _, rfl, rfl, by go_num, by omega, HSS.out, by omega, HL5.out, HD5.out, HK5.out⟩
            case measure => simp [intOf]; omega
          | true =>
            cases rm with
            | false =>
              have HSS : Hid (StepI ms mk0 (j + 1) x mk1) := Lib.hid (by have h := HSN.out; rw [if_pos (by simp)] at h; exact h)
              go_wp2_with (fail)
              refine ((HRX.out _)).mono ?_
              rintro e w9 ⟨rfl, rfl⟩
              go_wp2_with (fail)
              refine ((HRM.out _)).mono ?_
              rintro e w9 ⟨rfl, rfl⟩
              go_wp2_with (fail)
              go_roundw
              case rel => exact ⟨j + 1, x, mk1, _, rfl, rfl, by go_num, by omega, HSS.out, by omega, HL5.out, HD5.out, HK5.out⟩
              case measure => simp [intOf]; omega
            | true =>
              by_cases hmx : m < x
              · have HSS : Hid (StepI ms mk0 (j + 1) x mk1) := Lib.hid (by have h := HSN.out; rw [if_pos ⟨rfl, .inr hmx⟩] at h; exact h)
                go_wp2_with (fail)
                refine ((HRX.out _)).mono ?_
                rintro e w9 ⟨rfl, rfl⟩
                go_wp2_with (fail)
                refine ((HRM.out _)).mono ?_
                rintro e w9 ⟨rfl, rfl⟩
                go_wp2_with (fail)
                go_roundw
                case rel => exact ⟨j + 1, x, mk1, _, rfl, rfl, by go_num, by omega, HSS.out, by omega, HL5.out, HD5.out, HK5.out⟩
                case measure => simp [intOf]; omega
              · have HSS : Hid (StepI ms mk0 (j + 1) m mk1) := Lib.hid (by have h := HSN.out; rw [if_neg (fun g => g.2.elim (fun g => by cases g) hmx)] at h; exact h)
                go_wp2_with (fail)
                refine ((HRX.out _)).mono ?_
                rintro e w9 ⟨rfl, rfl⟩
                go_wp2_with (fail)
                refine ((HRM.out _)).mono ?_
                rintro e w9 ⟨rfl, rfl⟩
                go_wp2_with (fail)
                go_roundw
                case rel => exact ⟨j + 1, m, mk1, _, rfl, rfl, by go_num, by omega, HSS.out, by omega, HL5.out, HD5.out, HK5.out⟩
                case measure => simp [intOf]; omega
      · obtain rfl : j = ms.length := by omega
        have hmk2 : mk = upM mk0 m := by rcases hst with ⟨e, _⟩ | ⟨_, e⟩; omega; exact e
        have honce := tm_once HOK.out m
        rw [← hmk2] at honce
        obtain ⟨⟨e1', outs, mk1, L1⟩, hr⟩ : ∃ r, tmF mk0 L0 m = r := ⟨_, rfl⟩
        have HT4 := Lib.hid (HT3.out.keep HK.out (by have := HN3.out; simp; omega) (by have := HN3.out; simp; omega) (by have := HN3.out; simp; omega))
        have hm := tmark_any HT4.out (by have := HOK.out.N; omega) m
        rw [hr] at honce hm
        unfold MarkP at hm
        simp only at honce hm
        obtain ⟨h1, h2, h3⟩ := honce
        rw [h1, h2, h3, htd] at hm
        have HM := Lib.hid hm
        clear hm h1 h2 h3 hr hst hln hdr hk0 htd hmk2 hlt hj
        go_wp2_with (fail)
        refine HM.out.mono ?_
        rintro e w5 ⟨A5, c5, rfl, hE, hT5, hk5⟩
        have HT5 := Lib.hid hT5
        have HE5 := Lib.hid hE.row
        have HL5 := Lib.hid (HLN.out.keep hk5 (by have := HN3.out; simp; omega) (by have := HN3.out; simp; omega) (by have := HN3.out; simp; omega))
        have HD5 := Lib.hid (DocRow.rw (own_keep HDR.out hk5 (fun g hg => by have := own_base HDR.out g hg; have := HLT.out; simp; omega)))
        have HB5 := Lib.hid ((HB3.out.trans (HK.out.below HB3.out.size (by have := HN.out; simp; omega))).trans (hk5.below (HB3.out.trans (HK.out.below HB3.out.size (by have := HN.out; simp; omega))).size (by have := HN3.out; simp; omega)))
        clear hE hT5 hk5 HM HT4 HLN HDR HK
        go_wp2_with (fail)
        have hsm := same_any ct c5 HD5.out HE5.out (by omega) (by omega)
        rw [decide_eq_true rfl] at hsm
        refine hsm.mono ?_
        rintro e w6 ⟨rfl, hK⟩
        have HT6 := Lib.hid (HT5.out.keep hK)
        have HL6 := Lib.hid (HL5.out.keep hK)
        have HB6 := Lib.hid (HB5.out.trans (hK.below HB5.out.size (by simp)))
        clear hsm hK HD5 HE5 HT5 HL5 HB5
        go_wp2_with (fail)
        refine (tat_any HL6.out).mono ?_
        rintro e w7 ⟨rfl, rfl⟩
        go_wp2_with (fail)
        refine (tat_any HT6.out).mono ?_
        rintro e w7 ⟨rfl, rfl⟩
        go_wp2_with (fail)
        refine (topen_any HL6.out hrl).mono ?_
        rintro e w8 ⟨A8, c8, rfl, hE, hB⟩
        have HX8 := Lib.hid hE.row
        have HT8 := Lib.hid (HT6.out.below hB)
        have HB8 := Lib.hid (HB6.out.trans (hB.mono HB6.out.size))
        clear hE hB HT6 HL6 HB6
        go_wp2_with (fail)
        refine (topen_any HT8.out hrl).mono ?_
        rintro e w9 ⟨A9, c9, rfl, hE, hB⟩
        have HY9 := Lib.hid hE.row
        have HX9 := Lib.hid (HX8.out.below hB)
        have HB9 := Lib.hid (HB8.out.trans (hB.mono HB8.out.size))
        clear hE hB HX8 HT8 HB8
        go_wp2_with (fail)
        have hsm := same_any c8 c9 HX9.out HY9.out (by omega) (by omega)
        rw [decide_eq_true rfl] at hsm
        refine hsm.mono ?_
        rintro e w10 ⟨rfl, hK⟩
        have HB10 := Lib.hid (HB9.out.trans (hK.below HB9.out.size (by simp)))
        clear hsm hK HX9 HY9 HB9
        go_wp2_with (fail)
        refine (twakes_any _).mono ?_
        rintro e w11 ⟨rfl, hB11⟩
        have HBe := Lib.hid (HB10.out.trans (hB11.mono HB10.out.size))
        clear hB11
        go_wp2_with (fail)
        go_ret
        exact ⟨rfl, HBe.out⟩
end Go.Proofs.Ytmhbibcfbencnaa
