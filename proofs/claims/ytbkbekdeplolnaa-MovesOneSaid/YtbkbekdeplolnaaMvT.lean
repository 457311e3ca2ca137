/- MovesOne: the loop that looks at all moves under way. -/
import Derived.Test.YtbkbekdeplolnaaMvR
import Derived.Deep.Quiet
import Derived.IntWalk
namespace Go.Proofs.Ytbkbekdeplolnaa
open Go.RowKit Go.Shelf Go.Lib
open Go.ChangeMaps (setBlock)
set_option linter.unusedSimpArgs false
set_option linter.unusedVariables false
def firstLoop : Code → Option Code
  | .loop c => some c
  | .seq a b => match firstLoop a with
    | some c => some c
    | none => firstLoop b
  | .block _ c => firstLoop c
  | .scope c => firstLoop c
  | .cond _ a b => match firstLoop a with
    | some c => some c
    | none => firstLoop b
  | _ => none
noncomputable def one1 : Code := (Try.f13.body.bind firstLoop).getD .skip
noncomputable def one2 : Code := (firstLoop one1).getD .skip
set_option maxRecDepth 100000 in
set_option maxHeartbeats 16000000 in
theorem one_inner {w W W8 : World} {p em c : Nat} {om : Option Nat} {m : List (Int × En)} {last : Int} {E : List (Int × Int)} {A : Option Addr} {base : Nat} {Q : Exit → Act → World → Prop}
    {s0 s1 s2 s5 s6 s7 s8 s9 s10 s11 s12 s13 s14 s15 s18 s19 s20 s21 s22 s23 s24 s25 s26 s27 s28 s29 s30 s31 s32 s33 s34 s35 s36 s37 s38 s39 s40 s41 s42 s43 s44 s45 s46 s47 s48 s49 s50 s51 s52 s53 s54 s55 s56 s57 s58 s59 s60 s61 s62 s63 s64 s65 s66 s67 s68 s69 s70 s71 s72 s73 s74 s75 s76 s77 s78 s79 s80 s81 s82 s83 s84 s85 s86 s87 s88 s89 s90 s91 s92 s93 s94 s95 s96 s97 s98 s99 s100 s101 s102 s103 s104 s105 s106 s107 s108 s109 s110 s111 s112 s113 s114 s115 s116 s117 s118 s119 s120 s121 s122 s123 s124 s125 s126 s127 s128 s129 s130 s131 s132 s133 s134 s135 s136 s137 s138 s139 s140 s141 s142 s143 s144 s145 s146 s147 s148 s149 s150 s151 s152 s153 s154 s155 s156 s157 s158 s159 s160 s161 s162 s163 s164 s165 s166 s167 s168 s169 s170 s171 s172 s173 s174 s175 s176 s177 s178 s179 s180 s181 s182 s183 s184 s185 s186 s187 s188 s189 s190 s191 s192 s193 s194 s195 s196 s197 s198 s199 s200 s201 s202 s203 s204 s205 s206 s207 s208 s209 s210 s211 s212 s213 s214 s215 s216 s217 s218 s219 s220 s221 s222 s223 s224 s225 s226 s227 s228 s229 s230 s231 s232 s233 s234 s235 s236 s237 s238 s239 s240 s241 s242 s243 s244 s245 s246 s247 s248 s249 s250 s251 s252 s253 s254 s255 s256 s257 s258 s259 s260 s261 s262 s263 s264 s265 s266 s267 s268 s269 s270 s271 s272 s273 : Value}
    (one : One w W p em om m last E) (hE : EnsAt base W A (m.map (·.2))) (hm3 : m.length ≤ 300)
    (hexit : ∀ (u2 u17 u18 u19 u20 u21 u188 u189 u190 u191 u192 u193 u194 u195 u196 u197 u198 u199 u200 u201 u202 u203 u204 u205 u206 u207 u208 u209 u210 u211 u212 u213 u214 u215 u216 u217 u218 u219 u220 u221 u222 u223 u224 u225 u226 u227 u228 u229 u230 u231 u232 u233 u234 u235 u236 u237 u238 u239 u240 u241 u242 u243 u244 u245 u246 u247 u248 u249 u250 u251 u252 u253 u254 u255 u256 u257 u258 u259 u260 u261 u262 u263 u264 u265 u266 u267 u268 u269 u270 u271 u272 u273 : Value) (wi : World), One w wi p em om m last E → Q (.exit 3) ⟨List.toArray (s0 :: s1 :: u2 :: .pointer (some ⟨p, 0, none⟩) :: .map (some em) :: s5 :: s6 :: s7 :: s8 :: s9 :: s10 :: s11 :: s12 :: s13 :: s14 :: s15 :: .slice A m.length c :: u17 :: u18 :: u19 :: u20 :: u21 :: s22 :: s23 :: s24 :: s25 :: s26 :: s27 :: s28 :: s29 :: s30 :: s31 :: s32 :: s33 :: s34 :: s35 :: s36 :: s37 :: s38 :: s39 :: s40 :: s41 :: s42 :: s43 :: s44 :: s45 :: s46 :: s47 :: s48 :: s49 :: s50 :: s51 :: s52 :: s53 :: s54 :: s55 :: s56 :: s57 :: s58 :: s59 :: s60 :: s61 :: s62 :: s63 :: s64 :: s65 :: s66 :: s67 :: s68 :: s69 :: s70 :: s71 :: s72 :: s73 :: s74 :: s75 :: s76 :: s77 :: s78 :: s79 :: s80 :: s81 :: s82 :: s83 :: s84 :: s85 :: s86 :: s87 :: s88 :: s89 :: s90 :: s91 :: s92 :: s93 :: s94 :: s95 :: s96 :: s97 :: s98 :: s99 :: s100 :: s101 :: s102 :: s103 :: s104 :: s105 :: s106 :: s107 :: s108 :: s109 :: s110 :: s111 :: s112 :: s113 :: s114 :: s115 :: s116 :: s117 :: s118 :: s119 :: s120 :: s121 :: s122 :: s123 :: s124 :: s125 :: s126 :: s127 :: s128 :: s129 :: s130 :: s131 :: s132 :: s133 :: s134 :: s135 :: s136 :: s137 :: s138 :: s139 :: s140 :: s141 :: s142 :: s143 :: s144 :: s145 :: s146 :: s147 :: s148 :: s149 :: s150 :: s151 :: s152 :: s153 :: s154 :: s155 :: s156 :: s157 :: s158 :: s159 :: s160 :: s161 :: s162 :: s163 :: s164 :: s165 :: s166 :: s167 :: s168 :: s169 :: s170 :: s171 :: s172 :: s173 :: s174 :: s175 :: s176 :: s177 :: s178 :: s179 :: s180 :: s181 :: s182 :: s183 :: s184 :: s185 :: s186 :: s187 :: u188 :: u189 :: u190 :: u191 :: u192 :: u193 :: u194 :: u195 :: u196 :: u197 :: u198 :: u199 :: u200 :: u201 :: u202 :: u203 :: u204 :: u205 :: u206 :: u207 :: u208 :: u209 :: u210 :: u211 :: u212 :: u213 :: u214 :: u215 :: u216 :: u217 :: u218 :: u219 :: u220 :: u221 :: u222 :: u223 :: u224 :: u225 :: u226 :: u227 :: u228 :: u229 :: u230 :: u231 :: u232 :: u233 :: u234 :: u235 :: u236 :: u237 :: u238 :: u239 :: u240 :: u241 :: u242 :: u243 :: u244 :: u245 :: u246 :: u247 :: u248 :: u249 :: u250 :: u251 :: u252 :: u253 :: u254 :: u255 :: u256 :: u257 :: u258 :: u259 :: u260 :: u261 :: u262 :: u263 :: u264 :: u265 :: u266 :: u267 :: u268 :: u269 :: u270 :: u271 :: u272 :: u273 :: []), []⟩ wi) :
    (Code.loop one2).wp Try.prog Q ⟨List.toArray (s0 :: s1 :: s2 :: .pointer (some ⟨p, 0, none⟩) :: .map (some em) :: s5 :: s6 :: s7 :: s8 :: s9 :: s10 :: s11 :: s12 :: s13 :: s14 :: s15 :: .slice A m.length c :: .int .i64 0 :: s18 :: s19 :: s20 :: s21 :: s22 :: s23 :: s24 :: s25 :: s26 :: s27 :: s28 :: s29 :: s30 :: s31 :: s32 :: s33 :: s34 :: s35 :: s36 :: s37 :: s38 :: s39 :: s40 :: s41 :: s42 :: s43 :: s44 :: s45 :: s46 :: s47 :: s48 :: s49 :: s50 :: s51 :: s52 :: s53 :: s54 :: s55 :: s56 :: s57 :: s58 :: s59 :: s60 :: s61 :: s62 :: s63 :: s64 :: s65 :: s66 :: s67 :: s68 :: s69 :: s70 :: s71 :: s72 :: s73 :: s74 :: s75 :: s76 :: s77 :: s78 :: s79 :: s80 :: s81 :: s82 :: s83 :: s84 :: s85 :: s86 :: s87 :: s88 :: s89 :: s90 :: s91 :: s92 :: s93 :: s94 :: s95 :: s96 :: s97 :: s98 :: s99 :: s100 :: s101 :: s102 :: s103 :: s104 :: s105 :: s106 :: s107 :: s108 :: s109 :: s110 :: s111 :: s112 :: s113 :: s114 :: s115 :: s116 :: s117 :: s118 :: s119 :: s120 :: s121 :: s122 :: s123 :: s124 :: s125 :: s126 :: s127 :: s128 :: s129 :: s130 :: s131 :: s132 :: s133 :: s134 :: s135 :: s136 :: s137 :: s138 :: s139 :: s140 :: s141 :: s142 :: s143 :: s144 :: s145 :: s146 :: s147 :: s148 :: s149 :: s150 :: s151 :: s152 :: s153 :: s154 :: s155 :: s156 :: s157 :: s158 :: s159 :: s160 :: s161 :: s162 :: s163 :: s164 :: s165 :: s166 :: s167 :: s168 :: s169 :: s170 :: s171 :: s172 :: s173 :: s174 :: s175 :: s176 :: s177 :: s178 :: s179 :: s180 :: s181 :: s182 :: s183 :: s184 :: s185 :: s186 :: s187 :: s188 :: s189 :: s190 :: s191 :: s192 :: s193 :: s194 :: s195 :: s196 :: s197 :: s198 :: s199 :: s200 :: s201 :: s202 :: s203 :: s204 :: s205 :: s206 :: s207 :: s208 :: s209 :: s210 :: s211 :: s212 :: s213 :: s214 :: s215 :: s216 :: s217 :: s218 :: s219 :: s220 :: s221 :: s222 :: s223 :: s224 :: s225 :: s226 :: s227 :: s228 :: s229 :: s230 :: s231 :: s232 :: s233 :: s234 :: s235 :: s236 :: s237 :: s238 :: s239 :: s240 :: s241 :: s242 :: s243 :: s244 :: s245 :: s246 :: s247 :: s248 :: s249 :: s250 :: s251 :: s252 :: s253 :: s254 :: s255 :: s256 :: s257 :: s258 :: s259 :: s260 :: s261 :: s262 :: s263 :: s264 :: s265 :: s266 :: s267 :: s268 :: s269 :: s270 :: s271 :: s272 :: s273 :: []), []⟩ W := by
  have HEX := Lib.hid hexit
  clear hexit
  conv => arg 2; arg 1; whnf
  go_loopw [17] (fun i wi => ∃ j : Nat, i = .int .i64 j ∧ j ≤ m.length ∧ One w wi p em om m last E ∧ EnsAt base wi A (m.map (·.2))) (fun i _ => m.length - (intOf i).toNat)
  case atStart => exact ⟨0, rfl, Nat.zero_le _, one, hE⟩
  case round =>
    clear one hE
    obtain ⟨j, rfl, hj, onej, hEa⟩ := hrel
    by_cases hjl : j < m.length
    · obtain ⟨y, hy⟩ : ∃ y, (m.map (·.2))[j]? = some y := ⟨_, List.getElem?_eq_getElem (by simpa using hjl)⟩
      obtain ⟨f1, f2, f3, f4⟩ := onej.entry hy
      obtain ⟨ga, rfl, _, hga, a0, a1, a2, a3⟩ := ensAt_cells hEa hy
      have hby := by_gen (w := wr) (L := m.map (·.2)) (by simp; omega) y.mv (fun W hB => all_any (onej.A.below hB) (by omega) onej.R.up)
      have hof := fun W (hB : Below wr.heap.size wr W) => of_any (onej.A.below hB) y.part
      have hlk := fun W (hB : Below wr.heap.size wr W) => (run_lookup (P := Try.prog) Try.underlying68 (keyLaw_int Try.underlying3) (z := .int .i64 0) (fun W => by kernel_rfl) (onej.M.below hB) y.mv).2
      rw [f1] at hby
      simp only [f2] at hof
      simp only [f4, lookV] at hlk
      have hprev : ∀ i, j = i + 1 → ∃ z0, z0 < y.mv ∧ wr.cell? ⟨ga, i * 4, none⟩ = some (.int .i64 z0) := by
        intro i hi
        subst hi
        have hil : i < (m.map (·.2)).length := by simp; omega
        obtain ⟨g', e1, _, _, z0, _⟩ := ensAt_cells hEa (List.getElem?_eq_getElem hil)
        cases e1
        exact ⟨_, rise_prev onej.R.up (List.getElem?_eq_getElem hil) hy, z0⟩
      obtain ⟨y1, y2, y3, y4⟩ := y
      simp only [En.val, Option.getD_some, Option.isSome_some, ByP] at hby hof hlk f3 a0 a1 a2 a3 hprev
      have HJ := Lib.hid onej
      have HE := Lib.hid hEa
      have HOF := Lib.hid hof
      have HLK := Lib.hid hlk
      have HPV := Lib.hid hprev
      clear onej hEa hy f1 f2 f4 hof hlk hprev
      go_wp2_with (fail)
      refine hby.mono ?_
      rintro e wb ⟨he, hBb⟩
      simp only [En.val, Option.getD_some, Option.isSome_some] at he
      subst he
      have xb := EnC.new wb y1 y2 y3 y4
      have hsb := hBb.size
      clear hby
      replace a0 := (hBb.cell (p := ⟨ga, j * 4, none⟩) hga).trans a0
      replace a1 := (hBb.cell (p := ⟨ga, j * 4 + 1, none⟩) hga).trans a1
      replace a2 := (hBb.cell (p := ⟨ga, j * 4 + 2, none⟩) hga).trans a2
      replace a3 := (hBb.cell (p := ⟨ga, j * 4 + 3, none⟩) hga).trans a3
      have hgb : ga < wb.heap.size := by omega
      go_wp2_with (fail)
      refine (HOF.out _ (hBb.alloc hsb _)).mono ?_
      rintro e wc ⟨rfl, hBc⟩
      replace xb := xb.keep (Keep.of_below hBc []) (by simp)
      have xc := EnC.new wc y1 y2 y3 y4
      have hgl1 := xb.gl
      have hB9 : Below wr.heap.size wr wc := (hBb.alloc hsb _).trans (hBc.mono (by simp; omega))
      have hsc : wb.heap.size < wc.heap.size := xb.gl
      replace a0 := (hBc.cell (p := ⟨ga, j * 4, none⟩) (by simp; omega)).trans ((Below.refl _ wb).alloc (Nat.le_refl _) _ |>.cell (p := ⟨ga, j * 4, none⟩) hgb |>.trans a0)
      replace a1 := (hBc.cell (p := ⟨ga, j * 4 + 1, none⟩) (by simp; omega)).trans ((Below.refl _ wb).alloc (Nat.le_refl _) _ |>.cell (p := ⟨ga, j * 4 + 1, none⟩) hgb |>.trans a1)
      replace a2 := (hBc.cell (p := ⟨ga, j * 4 + 2, none⟩) (by simp; omega)).trans ((Below.refl _ wb).alloc (Nat.le_refl _) _ |>.cell (p := ⟨ga, j * 4 + 2, none⟩) hgb |>.trans a2)
      replace a3 := (hBc.cell (p := ⟨ga, j * 4 + 3, none⟩) (by simp; omega)).trans ((Below.refl _ wb).alloc (Nat.le_refl _) _ |>.cell (p := ⟨ga, j * 4 + 3, none⟩) hgb |>.trans a3)
      have hgc : ga < wc.heap.size := by omega
      obtain ⟨b0, b1, b2, b3, _⟩ := id xb
      simp only at b0 b1 b2 b3
      go_wp2_with (fail)
      have hn1 : decide (last < y1) = false := decide_eq_false (by omega)
      have hn1' : ¬ last < y1 := by omega
      have hBd : Below wc.heap.size wc (wc.alloc (.cells #[.int .i64 y1, .int .i64 y2, .int .i64 y3, .int .i64 y4] 51)) := (Below.refl _ wc).alloc (Nat.le_refl _) _
      obtain ⟨wd, hwd⟩ : ∃ wd, wc.alloc (.cells #[.int .i64 y1, .int .i64 y2, .int .i64 y3, .int .i64 y4] 51) = wd := ⟨_, rfl⟩
      rw [hwd] at xc hBd
      rw [hwd]
      clear hwd
      obtain ⟨d0, d1, d2, d3, hgl2⟩ := xc
      simp only at d0 d1 d2 d3
      have hbb0 : Below wr.heap.size wr wd := hB9.trans (hBd.mono hB9.size)
      have HBB := Lib.hid hbb0
      clear hbb0
      have hj0 : j = 0 ∨ ∃ i, j = i + 1 := by cases j with | zero => exact .inl rfl | succ i => exact .inr ⟨i, rfl⟩
      rcases hj0 with rfl | ⟨i, rfl⟩
      · refine wp_region_quiet (C := fun W => Below wd.heap.size wd W) rfl (by kernel_rfl) ((Below.refl _ wd).drew) ?_
        generalize hfr : Act.mk _ _ = fr
        iterate 60
          refine wpQuiet_step (fun K hK => ?_)
          subst hfr
          go_simp
          first
            | (generalize hfr : Act.mk _ _ = fr; with_reducible refine hK fr ?_; clear hK K)
            | (apply Exists.intro; refine ⟨fun w' hw' => ?_, ?_⟩
               · first
                 | exact rfl
                 | exact (last_any (HJ.out.A.below (HBB.out.trans (hw'.mono HBB.out.size)))).mono (fun e w'' ⟨he, hB⟩ => ⟨he, hB ▸ hw'⟩)
                 | (have hcw := hBd.trans (hw'.mono hBd.size); have hl0 := HLK.out w' (HBB.out.trans (hw'.mono HBB.out.size)); have l0 := (hcw.cell (p := ⟨ga, 0 * 4, none⟩) hgc).trans a0; have l1 := (hcw.cell (p := ⟨ga, 0 * 4 + 1, none⟩) hgc).trans a1; have l2 := (hcw.cell (p := ⟨ga, 0 * 4 + 2, none⟩) hgc).trans a2; have l3 := (hcw.cell (p := ⟨ga, 0 * 4 + 3, none⟩) hgc).trans a3; have m0 := (hcw.cell (p := ⟨wb.heap.size, 0, none⟩) hgl1).trans b0; have m1 := (hcw.cell (p := ⟨wb.heap.size, 1, none⟩) hgl1).trans b1; have m2 := (hcw.cell (p := ⟨wb.heap.size, 2, none⟩) hgl1).trans b2; have m3 := (hcw.cell (p := ⟨wb.heap.size, 3, none⟩) hgl1).trans b3; have n0 := (hw'.cell (p := ⟨wc.heap.size, 0, none⟩) hgl2).trans d0; have n1 := (hw'.cell (p := ⟨wc.heap.size, 1, none⟩) hgl2).trans d1; have n2 := (hw'.cell (p := ⟨wc.heap.size, 2, none⟩) hgl2).trans d2; have n3 := (hw'.cell (p := ⟨wc.heap.size, 3, none⟩) hgl2).trans d3; go_simp; first | done | exact rfl)
               generalize hfr : Act.mk _ _ = fr
               with_reducible refine hK fr ?_
               clear hK K)
        refine wpQuiet_nil ?_
        subst hfr
        intro W' hW'
        have onez := HJ.out.below (HBB.out.trans (hW'.mono HBB.out.size))
        have HEz := Lib.hid (HE.out.below (HBB.out.trans (hW'.mono HBB.out.size)))
        clear a0 a1 a2 a3 b0 b1 b2 b3 d0 d1 d2 d3 xb
        go_wp2
        go_roundw
        case rel => exact ⟨0 + 1, by go_num, by omega, onez, HEz.out⟩
        case measure => go_light; simp [intOf]; omega

      · obtain ⟨z0, hz0, p0⟩ := HPV.out i rfl
        replace p0 := (hB9.cell (p := ⟨ga, i * 4, none⟩) hga).trans p0
        have hn2 : decide (y1 ≤ z0) = false := decide_eq_false (by omega)
        have hn2' : ¬ y1 ≤ z0 := by omega
        have hn3 : decide ((0 : Int) < ((i : Int) + 1)) = true := decide_eq_true (by omega)
        have hin0 : (0 : Int) ≤ (i : Int) + 1 := by omega
        have hin1 : (i : Int) + 1 < (m.length : Int) := by omega
        have hin2 : (i : Int) < (m.length : Int) := by omega
        have hin3 : i < m.length := by omega
        have hwr : IntKind.i64.wrap ((i : Int) + 1 - 1) = i := by rw [show (i : Int) + 1 - 1 = i by omega]; exact IntWalk.i64_in _ (by omega)
        have hwr' : IntKind.i64.wrap (i : Int) = i := IntWalk.i64_in _ (by omega)
        refine wp_region_quiet (C := fun W => Below wd.heap.size wd W) rfl (by kernel_rfl) ((Below.refl _ wd).drew) ?_
        generalize hfr : Act.mk _ _ = fr
        iterate 60
          refine wpQuiet_step (fun K hK => ?_)
          subst hfr
          go_simp
          first
            | (generalize hfr : Act.mk _ _ = fr; with_reducible refine hK fr ?_; clear hK K)
            | (apply Exists.intro; refine ⟨fun w' hw' => ?_, ?_⟩
               · first
                 | exact rfl
                 | exact (last_any (HJ.out.A.below (HBB.out.trans (hw'.mono HBB.out.size)))).mono (fun e w'' ⟨he, hB⟩ => ⟨he, hB ▸ hw'⟩)
                 | (have hcw := hBd.trans (hw'.mono hBd.size); have hl0 := HLK.out w' (HBB.out.trans (hw'.mono HBB.out.size)); have p1 := (hcw.cell (p := ⟨ga, i * 4, none⟩) hgc).trans p0; have l0 := (hcw.cell (p := ⟨ga, (i + 1) * 4, none⟩) hgc).trans a0; have l1 := (hcw.cell (p := ⟨ga, (i + 1) * 4 + 1, none⟩) hgc).trans a1; have l2 := (hcw.cell (p := ⟨ga, (i + 1) * 4 + 2, none⟩) hgc).trans a2; have l3 := (hcw.cell (p := ⟨ga, (i + 1) * 4 + 3, none⟩) hgc).trans a3; have m0 := (hcw.cell (p := ⟨wb.heap.size, 0, none⟩) hgl1).trans b0; have m1 := (hcw.cell (p := ⟨wb.heap.size, 1, none⟩) hgl1).trans b1; have m2 := (hcw.cell (p := ⟨wb.heap.size, 2, none⟩) hgl1).trans b2; have m3 := (hcw.cell (p := ⟨wb.heap.size, 3, none⟩) hgl1).trans b3; have n0 := (hw'.cell (p := ⟨wc.heap.size, 0, none⟩) hgl2).trans d0; have n1 := (hw'.cell (p := ⟨wc.heap.size, 1, none⟩) hgl2).trans d1; have n2 := (hw'.cell (p := ⟨wc.heap.size, 2, none⟩) hgl2).trans d2; have n3 := (hw'.cell (p := ⟨wc.heap.size, 3, none⟩) hgl2).trans d3; go_simp; first | done | exact rfl)
               generalize hfr : Act.mk _ _ = fr
               with_reducible refine hK fr ?_
               clear hK K)
        refine wpQuiet_nil ?_
        subst hfr
        intro W' hW'
        have onez := HJ.out.below (HBB.out.trans (hW'.mono HBB.out.size))
        have HEz := Lib.hid (HE.out.below (HBB.out.trans (hW'.mono HBB.out.size)))
        clear a0 a1 a2 a3 b0 b1 b2 b3 d0 d1 d2 d3 xb
        go_wp2
        go_roundw
        case rel => exact ⟨i + 1 + 1, by go_num, by omega, onez, HEz.out⟩
        case measure => go_light; simp [intOf]; omega

    · obtain rfl : j = m.length := by omega
      clear hEa
      go_wp2_with (fail)
      exact HEX.out _ _ _ _ _ _ _ _ _ _ _ _ _ _ _ _ _ _ _ _ _ _ _ _ _ _ _ _ _ _ _ _ _ _ _ _ _ _ _ _ _ _ _ _ _ _ _ _ _ _ _ _ _ _ _ _ _ _ _ _ _ _ _ _ _ _ _ _ _ _ _ _ _ _ _ _ _ _ _ _ _ _ _ _ _ _ _ _ _ _ _ _ wr onej
end Go.Proofs.Ytbkbekdeplolnaa
