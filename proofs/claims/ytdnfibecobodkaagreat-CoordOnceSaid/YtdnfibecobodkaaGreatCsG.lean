/- frame.Put and msg.Data. -/
import Derived.Test.YtdnfibecobodkaaGreatCsE
import Derived.Lib.AppendStr
namespace Go.Proofs.YtdnfibecobodkaaGreat
open Go.RowKit Go.Lib
set_option linter.unusedSimpArgs false
set_option linter.unusedVariables false
/-- A number's lowest n bytes. -/
def leB (n x : Nat) : List UInt8 := (List.range n).map fun i => UInt8.ofNat (x / 2 ^ (8 * i) % 256)
theorem leB_succ (n x : Nat) : leB (n + 1) x = leB n x ++ [UInt8.ofNat (x / 2 ^ (8 * n) % 256)] := by simp [leB, List.range_succ]
theorem leB_len (n x : Nat) : (leB n x).length = n := by simp [leB]
set_option maxRecDepth 100000 in
theorem little_any {base : Nat} {w : World} {v : Value} {l : List UInt8} (h : BRow base w v l) (hb : base ≤ w.heap.size) (hl : l.length ≤ 90000) (x : Nat) (hx : x < 4294967296) : Calls Tryz.prog 97 #[v, .int .u64 x, .int .i64 4] w fun e w' => ∃ v', e = .returned v' ∧ BRow base w' v' (l ++ leB 4 x) ∧ Keep v.ownBlock.toList w w' ∧ OwnUp w v v' := by
  have H := Lib.hid h
  clear h
  obtain ⟨av, cv, rfl, _⟩ := own_shape H.out
  go_enter Tryz.func97, Tryz.ntmps97
  go_wp2_with (fail)
  go_loopw [0, 9] (fun a i wr => ∃ (j : Nat), i = .int .i64 j ∧ j ≤ 4 ∧ BRow base wr a (l ++ leB j x) ∧ Keep (Value.slice av l.length cv).ownBlock.toList w wr ∧ (a.ownBlock = (Value.slice av l.length cv).ownBlock ∨ ∃ g, a.ownBlock = some g ∧ w.heap.size ≤ g)) (fun _ i _ => 4 - (intOf i).toNat)
  case atStart => exact ⟨0, rfl, by omega, by simpa [leB] using H.out, Keep.refl _ _, .inl rfl⟩
  case round =>
    obtain ⟨j, rfl, hj, hr, hk, hob⟩ := hrel
    have h0j : (0 : Int) ≤ (j : Int) := Int.natCast_nonneg j
    obtain ⟨l2, hl2⟩ : ∃ l2, l ++ leB j x = l2 := ⟨_, rfl⟩
    have hlen2 : l2.length ≤ 90004 := by rw [← hl2, List.length_append, leB_len]; omega
    rw [hl2] at hr
    obtain ⟨a2, c2, rfl, _⟩ := own_shape hr
    by_cases hlt : j < 4
    · have hjn : (j : Int) < 4 := by omega
      obtain ⟨q, hq⟩ : ∃ q, x / 2 ^ (8 * j) = q := ⟨_, rfl⟩
      have step : ∀ (b : UInt8) (vb : Value), byV b = vb → ∀ (Wx : World), Wx = wr.alloc (.cells #[vb] 5) → BRow base Wx (.slice a2 l2.length c2) l2 ∧ Wx.cell? ⟨wr.heap.size, 0, none⟩ = some (byV b) ∧ base ≤ Wx.heap.size ∧
          (∀ (v' : Value) (w' : World), Keep (Value.slice a2 l2.length c2).ownBlock.toList Wx w' → (v'.ownBlock = (Value.slice a2 l2.length c2).ownBlock ∨ v'.ownBlock = some (wr.heap.size + 1)) → Keep (Value.slice av l.length cv).ownBlock.toList w w' ∧ (v'.ownBlock = (Value.slice av l.length cv).ownBlock ∨ ∃ g, v'.ownBlock = some g ∧ w.heap.size ≤ g)) := by
        intro b vb hvb Wx hWx
        subst hWx
        have ka : Keep [] wr (wr.alloc (.cells #[vb] 5)) := (Keep.refl _ _).alloc _
        refine ⟨hr.keep ka (by simp), ?_, Nat.le_trans hb (Nat.le_trans hk.size ka.size), fun v' w' h1 h2 => ?_⟩
        · have := cells_new wr [vb] 5 _ rfl 0 vb rfl
          rw [hvb]
          simp [Addr.add]
        · have k2 : Keep (Value.slice av l.length cv).ownBlock.toList w (wr.alloc (.cells #[vb] 5)) := hk.alloc _
          refine ⟨k2.step h1 (fun z hz => ?_), ?_⟩
          · rcases hob with e | ⟨g, e, hg⟩
            · exact .inl (by rw [← e]; exact hz)
            · rw [e] at hz
              obtain rfl : z = g := by simpa using hz
              exact .inr hg
          · rcases h2 with e | e
            · rw [e]; exact hob
            · exact .inr ⟨_, e, by have := k2.size; rw [World.size_alloc] at this; exact this⟩
      have hq2 : (x : Int) / 2 ^ (8 * j) = q := by rw [← hq]; push_cast; rfl
      have hbv : byV (UInt8.ofNat (q % 256)) = .int .u8 ((x : Int) / 2 ^ (8 * j) % 256) := by rw [byV_ofNat _ (by omega), hq2]; congr 1
      obtain ⟨bb, hbb⟩ : ∃ b, UInt8.ofNat (q % 256) = b := ⟨_, rfl⟩
      rw [hbb] at hbv
      obtain ⟨r1, r2, r3, r4⟩ := step _ _ hbv _ rfl
      have hnext : l ++ leB (j + 1) x = l2 ++ [bb] := by rw [leB_succ, hq, hbb, ← List.append_assoc, hl2]
      have R1 := Lib.hid r1
      have R2 := Lib.hid r2
      have R3 := Lib.hid r3
      have R4 := Lib.hid r4
      have HN := Lib.hid hnext
      clear r1 r2 r3 r4 hbv hbb step hr hk hob hl2 hnext hq hq2
      go_wp2_with (at_builtin; refine wpList_append_byte rfl _ _ rfl base _ l2 rfl R1.out ⟨wr.heap.size, 0, none⟩ 1 rfl _ R2.out (by omega) R3.out ?_)
      intro v' w' hr' hk' hat'
      obtain ⟨k1, k2⟩ := R4.out v' w' hk' hat'
      rw [← HN.out] at hr'
      have HN := Lib.hid hr'
      have HK1 := Lib.hid k1
      have HK2 := Lib.hid k2
      clear hr' hk' hat' k1 k2
      go_wp2_with (fail)
      go_roundw
      case rel => exact ⟨j + 1, by go_num, by omega, HN.out, HK1.out, HK2.out⟩
      case measure => simp [intOf]; omega
    · obtain rfl : j = 4 := by omega
      have HR := Lib.hid hr
      have HK := Lib.hid hk
      have HO := Lib.hid hob
      have HL2 := Lib.hid hl2
      clear hr hk hob hl2
      go_wp2_with (fail)
      go_ret
      exact ⟨_, rfl, by rw [HL2.out]; exact HR.out, HK.out, HO.out⟩
set_option maxRecDepth 100000 in
theorem put_any {base : Nat} {w : World} {v : Value} {l : List UInt8} (h : BRow base w v l) (hb : base ≤ w.heap.size) (hl : l.length ≤ 90000) (x : Nat) (hx : x < 4294967296) : Calls Tryz.prog 89 #[v, .int .u32 x] w fun e w' => ∃ v', e = .returned v' ∧ BRow base w' v' (l ++ leB 4 x) ∧ Keep v.ownBlock.toList w w' ∧ OwnUp w v v' := by
  have HC := Lib.hid (little_any h hb hl x hx)
  obtain ⟨av, cv, rfl, _⟩ := own_shape h
  clear h
  go_enter Tryz.func89, Tryz.ntmps89
  go_wp2_with (fail)
  refine HC.out.mono ?_
  rintro e w1 ⟨v', rfl, h1, h2, h3⟩
  have hs : ∃ a n c, v' = .slice a n c := by obtain ⟨a, c, h, _⟩ := own_shape h1; exact ⟨a, _, c, h⟩
  obtain ⟨a', n', c', rfl⟩ := hs
  have H1 := Lib.hid h1
  have H2 := Lib.hid h2
  have H3 := Lib.hid h3
  clear h1 h2 h3
  go_wp2_with (fail)
  go_ret
  exact ⟨_, rfl, H1.out, H2.out, H3.out⟩
/-- A text's frame. -/
def frameB (b : List UInt8) : List UInt8 := leB 4 b.length ++ leB 4 (crcF (leB 4 b.length)) ++ b ++ leB 4 (crcF b)
theorem wpList_append_str {w : World} {ops : Array Oper} {rest : List Oper} {o : Oper} {a : Act} {Q : Exit → Act → World → Prop} (hgd : o.guard = none) (s x : Operand)
    (ho : o.op = .call { callee := .builtin .append, args := #[s, x], argTypes := #[160, 9] }) (base : Nat) (v : Value) (M : List UInt8) (hs : a.eval s = v) (hown : BRow base w v M)
    (b : ByteArray) (hx : a.eval x = .string b) (hm : M.length ≤ 100000) (hz : b.size ≤ 100000) (hbase : base ≤ w.heap.size)
    (h : ∀ v' w', BRow base w' v' (M ++ b.data.toList) → Keep v.ownBlock.toList w w' → wpList Tryz.prog ops Q rest (a.put o.dst v') w') :
    wpList Tryz.prog ops Q (o :: rest) a w := by
  obtain ⟨i0, hi0, hz0, hz1, hz2⟩ := info_parts infoU8
  refine wpList_append_own_string w hgd s x 160 9 ho base 5 i0 Tryz.underlying160 Tryz.underlying9 hi0 hz0 hz1 hz2 v M.length (M.map byV) hs hown b hx (by unfold maxLen; omega) (by omega) hbase ?_
  intro v' w' hown' hgrow _
  refine h v' w' ?_ ((Keep.refl _ w).grown hgrow (fun k hk => .inl (by simp [hk])))
  unfold BRow
  rw [List.length_append, List.map_append, str_size]
  exact hown'
set_option maxRecDepth 100000 in
set_option maxHeartbeats 2000000 in
theorem fput_any (w : World) (s : ByteArray) (hz : s.size ≤ 16384) : Calls Tryz.prog 67 #[.string s] w fun e w' => e = .returned (.tuple #[.string ⟨(frameB s.data.toList).toArray⟩, .int .i64 0]) ∧ Keep [] w w' := by
  have hgt : ¬ (16384 : Int) < s.size := by omega
  have HC1 := fun (W : World) (t : ByteArray) (h : t.size ≤ 100000) => crc_any W t h
  have HCR := Lib.hid HC1
  clear HC1
  go_enter Tryz.func67, Tryz.ntmps67
  go_wp2_with (fail)
  refine (put_any (show BRow w.heap.size w (.slice none 0 0) [] from World.ownsRow_nil w w.heap.size 5 1) (Nat.le_refl _) (by simp) s.size (by omega)).mono ?_
  rintro e w1 ⟨v1, rfl, h1, hk1, _⟩
  rw [List.nil_append] at h1
  obtain ⟨l1, hl1⟩ : ∃ l1, leB 4 s.size = l1 := ⟨_, rfl⟩
  have hlen1 : l1.length = 4 := by rw [← hl1, leB_len]
  rw [hl1] at h1
  have hne1 : l1 ≠ [] := by intro e; rw [e] at hlen1; simp at hlen1
  have hcv := row_string h1 hne1
  obtain ⟨a1, c1, rfl, _⟩ := own_shape h1
  have HK1 : Hid (Keep [] w w1) := Lib.hid hk1
  have H1 := Lib.hid h1
  have HL1 := Lib.hid hl1
  have HN1 := Lib.hid hlen1
  clear h1 hk1 hl1 hlen1
  go_wp2_with (fail)
  refine (HCR.out w1 ⟨l1.toArray⟩ (by have := HN1.out; simp [ByteArray.size]; omega)).mono ?_
  rintro e w2 ⟨rfl, hk2⟩
  simp only
  obtain ⟨x1, hx1⟩ : ∃ x1, crcF l1 = x1 := ⟨_, rfl⟩
  have hx1l : x1 < 4294967296 := by rw [← hx1]; exact crcF_lt l1
  rw [hx1]
  have H2 := Lib.hid (H1.out.keep hk2 (by simp))
  have HK2 := Lib.hid (HK1.out.trans hk2)
  have HX1 := Lib.hid hx1
  clear hk2 hx1 hcv
  go_wp2_with (fail)
  refine (put_any H2.out HK2.out.size (by have := HN1.out; omega) x1 hx1l).mono ?_
  rintro e w3 ⟨v3, rfl, h3, hk3, _⟩
  obtain ⟨l3, hl3⟩ : ∃ l3, l1 ++ leB 4 x1 = l3 := ⟨_, rfl⟩
  have hlen3 : l3.length = 8 := by rw [← hl3, List.length_append, leB_len, HN1.out]
  rw [hl3] at h3
  obtain ⟨a3, c3, rfl, _⟩ := own_shape h3
  have hb2 := own_base H2.out
  have HK3 : Hid (Keep [] w w3) := Lib.hid (HK2.out.step hk3 (fun y hy => .inr (hb2 y (by simpa using hy))))
  have H3 := Lib.hid h3
  have HL3 := Lib.hid hl3
  have HN3 := Lib.hid hlen3
  clear h3 hk3 hl3 hb2 hlen3
  go_wp2_with (at_builtin; refine wpList_append_str rfl _ _ rfl w.heap.size _ l3 rfl H3.out s rfl (by have := HN3.out; omega) (by omega) HK3.out.size ?_)
  intro v4 w4 h4 hk4
  obtain ⟨l4, hl4⟩ : ∃ l4, l3 ++ s.data.toList = l4 := ⟨_, rfl⟩
  have hlen4 : l4.length ≤ 17000 := by rw [← hl4, List.length_append, str_size, HN3.out]; omega
  rw [hl4] at h4
  obtain ⟨a4, c4, rfl, _⟩ := own_shape h4
  have hb3 := own_base H3.out
  have HK4 : Hid (Keep [] w w4) := Lib.hid (HK3.out.step hk4 (fun y hy => .inr (hb3 y (by simpa using hy))))
  have H4 := Lib.hid h4
  have HL4 := Lib.hid hl4
  clear h4 hk4 hl4 hb3
  go_wp2_with (fail)
  refine (HCR.out w4 s (by omega)).mono ?_
  rintro e w5 ⟨rfl, hk5⟩
  obtain ⟨x2, hx2⟩ : ∃ x2, crcF s.data.toList = x2 := ⟨_, rfl⟩
  have hx2l : x2 < 4294967296 := by rw [← hx2]; exact crcF_lt _
  rw [hx2]
  have H5 := Lib.hid (H4.out.keep hk5 (by simp))
  have HK5 := Lib.hid (HK4.out.trans hk5)
  have HX2 := Lib.hid hx2
  clear hk5 hx2
  go_wp2_with (fail)
  refine (put_any H5.out HK5.out.size (by omega) x2 hx2l).mono ?_
  rintro e w6 ⟨v6, rfl, h6, hk6, _⟩
  obtain ⟨l6, hl6⟩ : ∃ l6, l4 ++ leB 4 x2 = l6 := ⟨_, rfl⟩
  rw [hl6] at h6
  have hne6 : l6 ≠ [] := by intro e; have := congrArg List.length hl6; rw [e, List.length_append, leB_len] at this; simp at this
  have hcv := row_string h6 hne6
  obtain ⟨a6, c6, rfl, _⟩ := own_shape h6
  have hb5 := own_base H5.out
  have HK6 : Hid (Keep [] w w6) := Lib.hid (HK5.out.step hk6 (fun y hy => .inr (hb5 y (by simpa using hy))))
  have HL6 := Lib.hid hl6
  clear h6 hk6 hl6 hb5
  go_wp2_with (fail)
  go_ret2
  refine ⟨?_, HK6.out⟩
  have e1 : l6 = frameB s.data.toList := by
    unfold frameB
    rw [← HL6.out, ← HL4.out, ← HL3.out, ← HX2.out, ← HX1.out, ← HL1.out, str_size]
  rw [e1]
  rfl
set_option maxRecDepth 100000 in
/-- msg.Data: a message in its frame. -/
theorem data_any {w : World} {m : Mg} {a : Option Addr} {c : Nat} (ho : m.Ok) (hc : m.k = 4 ∨ m.k = 12 → a = none ∧ c = 0) (hI : IntsAt w a m.own) : Calls Tryz.prog 53 #[.agg (m.cells (.slice a m.own.length c))] w fun e w' => e = .returned (.tuple #[.string ⟨(frameB m.enc).toArray⟩, .int .i64 0]) ∧ Keep [] w w' := by
  obtain ⟨cv, hcv⟩ : ∃ cv, m.cells (.slice a m.own.length c) = cv := ⟨_, rfl⟩
  have hbox : ∀ W : World, (Instr.box 40 (.agg cv)).run Tryz.prog W = .ok (.pointer (some ⟨W.heap.size, 0, none⟩)) (W.alloc (.cells cv 40)) := by
    intro W
    rw [← hcv]
    rfl
  have hsz : cv.size = 22 := by rw [← hcv]; rfl
  obtain ⟨w1, hw1⟩ : ∃ u, w.alloc (.cells cv 40) = u := ⟨_, rfl⟩
  have hk1 : Keep [] w w1 := by rw [← hw1]; exact (Keep.refl _ _).alloc _
  have hm1 : MsAt w1 w.heap.size cv := by rw [← hw1]; exact World.alloc_heap_new w _
  have hby := bytes_any (w := w1) (c := c) ho hc (hI.keep hk1 (by simp))
  rw [hcv] at hby ⊢
  have HBY := Lib.hid hby
  have HM1 : Hid (w1.heap[w.heap.size]? = some (.cells cv 40 (0, 0))) := Lib.hid hm1
  have HSZ := Lib.hid (show (Tryz.prog.info? 40).map (·.size) = some cv.size by rw [hsz]; exact msg_size)
  have HK1 := Lib.hid hk1
  have hfr := fun (W : World) => fput_any W ⟨m.enc.toArray⟩ (by have := Mg.enc_len ho; simp [ByteArray.size]; omega)
  have HFR := Lib.hid hfr
  clear hby hm1 hsz hk1 hcv hfr hI
  go_enter Tryz.func53, Tryz.ntmps53
  go_wp2_with ((with_reducible refine wpList_load_row ?_ 40 (.tmp 1) ?_ (w.heap.size) ?_ 40 cv (0, 0) _ HM1.out Tryz.underlying40 ?_ HSZ.out ?_); rfl; rfl; rfl; rfl)
  refine HBY.out.mono ?_
  rintro e w2 ⟨rfl, hk2⟩
  have HK2 := Lib.hid (HK1.out.trans hk2)
  clear hk2
  go_wp2_with (fail)
  refine (HFR.out w2).mono ?_
  rintro e w3 ⟨rfl, hk3⟩
  have HK3 := Lib.hid (HK2.out.trans hk3)
  clear hk3
  go_wp2_with (fail)
  go_ret2
  exact ⟨rfl, HK3.out⟩
end Go.Proofs.YtdnfibecobodkaaGreat
