/- MovesPlays: the loop that compares all moves under way. -/
import Derived.Test.YtbkbekdeplolnaaMvZ
import Derived.Deep.Quiet
import Derived.IntWalk
namespace Go.Proofs.Ytbkbekdeplolnaa
open Go.RowKit Go.Shelf Go.Lib
open Go.ChangeMaps (setBlock)
set_option linter.unusedSimpArgs false
set_option linter.unusedVariables false
def firstLp : Code → Option Code
  | .loop c => some c
  | .seq a b => match firstLp a with
    | some c => some c
    | none => firstLp b
  | .block _ c => firstLp c
  | .scope c => firstLp c
  | .cond _ a b => match firstLp a with
    | some c => some c
    | none => firstLp b
  | _ => none
noncomputable def pl1 : Code := (Try.f12.body.bind firstLp).getD .skip
noncomputable def pl2 : Code := (firstLp pl1).getD .skip
set_option maxRecDepth 100000 in
set_option maxHeartbeats 16000000 in
theorem pl_inner {w W : World} {p rb c cr base : Nat} {om : Option Nat} {m : List (Int × En)} {last : Int} {A Ar : Option Addr} {Q : Exit → Act → World → Prop}
    {s0 s1 s2 s3 s4 s7 s8 s9 s10 s11 s12 s13 s14 s15 s16 s17 s18 s19 s20 s21 s22 s23 s24 s25 s26 s27 s28 s29 s30 s33 s34 s35 s36 s37 s38 s39 s40 s41 s42 s43 s44 s45 s46 s47 s48 s49 s50 s51 s52 s53 s54 s55 s56 s57 s58 s59 s60 s61 s62 s63 s64 s65 s66 s67 s68 s69 s70 s71 s72 s73 s74 s75 s76 s77 s78 s79 s80 s81 s82 s83 s84 s85 s86 s87 s88 s89 s90 s91 s92 s93 s94 s95 s96 s97 s98 s99 s100 s101 s102 s103 s104 s105 s106 s107 s108 s109 s110 s111 s112 s113 s114 s115 s116 s117 s118 s119 s120 s121 s122 s123 s124 s125 s126 s127 s128 s129 s130 s131 s132 s133 s134 s135 s136 s137 s138 s139 s140 s141 s142 s143 s144 s145 s146 s147 s148 s149 s150 s151 s152 s153 s154 s155 s156 s157 s158 s159 s160 s161 s162 s163 s164 s165 s166 s167 s168 s169 s170 s171 s172 s173 s174 s175 s176 s177 s178 s179 s180 s181 s182 s183 s184 s185 s186 s187 s188 s189 s190 s191 s192 s193 s194 s195 s196 s197 s198 s199 s200 s201 s202 s203 s204 s205 s206 s207 s208 s209 s210 s211 s212 s213 s214 s215 s216 s217 s218 s219 s220 s221 s222 s223 s224 s225 s226 s227 s228 s229 : Value}
    (pl : Pl w W p rb om m last Ar cr) (hE : EnsAt base W A (m.map (·.2))) (hm3 : m.length ≤ 300)
    (hexit : ∀ (u4 u32 u213 u214 u215 u216 u217 u218 u219 u220 u221 u222 u223 u224 u225 u226 u227 u228 u229 : Value) (wi : World), Pl w wi p rb om m last Ar cr → Q (.exit 3) ⟨List.toArray (s0 :: s1 :: s2 :: s3 :: u4 :: .pointer (some ⟨p, 0, none⟩) :: .pointer (some ⟨rb, 0, none⟩) :: s7 :: s8 :: s9 :: s10 :: s11 :: s12 :: s13 :: s14 :: s15 :: s16 :: s17 :: s18 :: s19 :: s20 :: s21 :: s22 :: s23 :: s24 :: s25 :: s26 :: s27 :: s28 :: s29 :: s30 :: .slice A m.length c :: u32 :: s33 :: s34 :: s35 :: s36 :: s37 :: s38 :: s39 :: s40 :: s41 :: s42 :: s43 :: s44 :: s45 :: s46 :: s47 :: s48 :: s49 :: s50 :: s51 :: s52 :: s53 :: s54 :: s55 :: s56 :: s57 :: s58 :: s59 :: s60 :: s61 :: s62 :: s63 :: s64 :: s65 :: s66 :: s67 :: s68 :: s69 :: s70 :: s71 :: s72 :: s73 :: s74 :: s75 :: s76 :: s77 :: s78 :: s79 :: s80 :: s81 :: s82 :: s83 :: s84 :: s85 :: s86 :: s87 :: s88 :: s89 :: s90 :: s91 :: s92 :: s93 :: s94 :: s95 :: s96 :: s97 :: s98 :: s99 :: s100 :: s101 :: s102 :: s103 :: s104 :: s105 :: s106 :: s107 :: s108 :: s109 :: s110 :: s111 :: s112 :: s113 :: s114 :: s115 :: s116 :: s117 :: s118 :: s119 :: s120 :: s121 :: s122 :: s123 :: s124 :: s125 :: s126 :: s127 :: s128 :: s129 :: s130 :: s131 :: s132 :: s133 :: s134 :: s135 :: s136 :: s137 :: s138 :: s139 :: s140 :: s141 :: s142 :: s143 :: s144 :: s145 :: s146 :: s147 :: s148 :: s149 :: s150 :: s151 :: s152 :: s153 :: s154 :: s155 :: s156 :: s157 :: s158 :: s159 :: s160 :: s161 :: s162 :: s163 :: s164 :: s165 :: s166 :: s167 :: s168 :: s169 :: s170 :: s171 :: s172 :: s173 :: s174 :: s175 :: s176 :: s177 :: s178 :: s179 :: s180 :: s181 :: s182 :: s183 :: s184 :: s185 :: s186 :: s187 :: s188 :: s189 :: s190 :: s191 :: s192 :: s193 :: s194 :: s195 :: s196 :: s197 :: s198 :: s199 :: s200 :: s201 :: s202 :: s203 :: s204 :: s205 :: s206 :: s207 :: s208 :: s209 :: s210 :: s211 :: s212 :: u213 :: u214 :: u215 :: u216 :: u217 :: u218 :: u219 :: u220 :: u221 :: u222 :: u223 :: u224 :: u225 :: u226 :: u227 :: u228 :: u229 :: []), []⟩ wi) :
    (Code.loop pl2).wp Try.prog Q ⟨List.toArray (s0 :: s1 :: s2 :: s3 :: s4 :: .pointer (some ⟨p, 0, none⟩) :: .pointer (some ⟨rb, 0, none⟩) :: s7 :: s8 :: s9 :: s10 :: s11 :: s12 :: s13 :: s14 :: s15 :: s16 :: s17 :: s18 :: s19 :: s20 :: s21 :: s22 :: s23 :: s24 :: s25 :: s26 :: s27 :: s28 :: s29 :: s30 :: .slice A m.length c :: .int .i64 0 :: s33 :: s34 :: s35 :: s36 :: s37 :: s38 :: s39 :: s40 :: s41 :: s42 :: s43 :: s44 :: s45 :: s46 :: s47 :: s48 :: s49 :: s50 :: s51 :: s52 :: s53 :: s54 :: s55 :: s56 :: s57 :: s58 :: s59 :: s60 :: s61 :: s62 :: s63 :: s64 :: s65 :: s66 :: s67 :: s68 :: s69 :: s70 :: s71 :: s72 :: s73 :: s74 :: s75 :: s76 :: s77 :: s78 :: s79 :: s80 :: s81 :: s82 :: s83 :: s84 :: s85 :: s86 :: s87 :: s88 :: s89 :: s90 :: s91 :: s92 :: s93 :: s94 :: s95 :: s96 :: s97 :: s98 :: s99 :: s100 :: s101 :: s102 :: s103 :: s104 :: s105 :: s106 :: s107 :: s108 :: s109 :: s110 :: s111 :: s112 :: s113 :: s114 :: s115 :: s116 :: s117 :: s118 :: s119 :: s120 :: s121 :: s122 :: s123 :: s124 :: s125 :: s126 :: s127 :: s128 :: s129 :: s130 :: s131 :: s132 :: s133 :: s134 :: s135 :: s136 :: s137 :: s138 :: s139 :: s140 :: s141 :: s142 :: s143 :: s144 :: s145 :: s146 :: s147 :: s148 :: s149 :: s150 :: s151 :: s152 :: s153 :: s154 :: s155 :: s156 :: s157 :: s158 :: s159 :: s160 :: s161 :: s162 :: s163 :: s164 :: s165 :: s166 :: s167 :: s168 :: s169 :: s170 :: s171 :: s172 :: s173 :: s174 :: s175 :: s176 :: s177 :: s178 :: s179 :: s180 :: s181 :: s182 :: s183 :: s184 :: s185 :: s186 :: s187 :: s188 :: s189 :: s190 :: s191 :: s192 :: s193 :: s194 :: s195 :: s196 :: s197 :: s198 :: s199 :: s200 :: s201 :: s202 :: s203 :: s204 :: s205 :: s206 :: s207 :: s208 :: s209 :: s210 :: s211 :: s212 :: s213 :: s214 :: s215 :: s216 :: s217 :: s218 :: s219 :: s220 :: s221 :: s222 :: s223 :: s224 :: s225 :: s226 :: s227 :: s228 :: s229 :: []), []⟩ W := by
  have HEX := Lib.hid hexit
  clear hexit
  conv => arg 2; arg 1; whnf
  go_loopw [32] (fun i wi => ∃ j : Nat, i = .int .i64 j ∧ j ≤ m.length ∧ Pl w wi p rb om m last Ar cr ∧ EnsAt base wi A (m.map (·.2))) (fun i _ => m.length - (intOf i).toNat)
  case atStart => exact ⟨0, rfl, Nat.zero_le _, pl, hE⟩
  case round =>
    clear pl hE
    obtain ⟨j, rfl, hj, plj, hEa⟩ := hrel
    by_cases hjl : j < m.length
    · obtain ⟨y, hy⟩ : ∃ y, (m.map (·.2))[j]? = some y := ⟨_, List.getElem?_eq_getElem (by simpa using hjl)⟩
      obtain ⟨ga, rfl, _, hga, a0, a1, a2, a3⟩ := ensAt_cells hEa hy
      obtain ⟨gr, rfl, _, hgr, r0, r1, r2, r3⟩ := ensAt_cells plj.E hy
      obtain ⟨q0, q1, hrl, _⟩ := plj.B.facts
      obtain ⟨y1, y2, y3, y4⟩ := y
      simp only at a0 a1 a2 a3 r0 r1 r2 r3
      have hjl2 : (j : Int) < (m.length : Int) := by omega
      have hsame := fun W => same_any ⟨y1, y2, y3, y4⟩ ⟨y1, y2, y3, y4⟩ W
      simp only [En.val, decide_true] at hsame
      have HS := Lib.hid hsame
      have HJ := Lib.hid plj
      have HE := Lib.hid hEa
      clear plj hEa hy hsame
      go_wp2_with (fail)
      refine wp_region_quiet (C := fun W => Below wr.heap.size wr W) rfl (by kernel_rfl) ((Below.refl _ wr).drew) ?_
      generalize hfr : Act.mk _ _ = fr
      iterate 11
        refine wpQuiet_step (fun K hK => ?_)
        subst hfr
        go_simp
        first
          | (generalize hfr : Act.mk _ _ = fr; with_reducible refine hK fr ?_; clear hK K)
          | (apply Exists.intro; refine ⟨fun w' hw' => ?_, ?_⟩
             · first
               | exact rfl
               | exact (HS.out w').mono (fun e w'' ⟨he, hB⟩ => ⟨he, hw'.trans (hB.mono hw'.size)⟩)
               | (have l0 := (hw'.cell (p := ⟨ga, j * 4, none⟩) hga).trans a0; have l1 := (hw'.cell (p := ⟨ga, j * 4 + 1, none⟩) hga).trans a1; have l2 := (hw'.cell (p := ⟨ga, j * 4 + 2, none⟩) hga).trans a2; have l3 := (hw'.cell (p := ⟨ga, j * 4 + 3, none⟩) hga).trans a3; have m0 := (hw'.cell (p := ⟨gr, j * 4, none⟩) hgr).trans r0; have m1 := (hw'.cell (p := ⟨gr, j * 4 + 1, none⟩) hgr).trans r1; have m2 := (hw'.cell (p := ⟨gr, j * 4 + 2, none⟩) hgr).trans r2; have m3 := (hw'.cell (p := ⟨gr, j * 4 + 3, none⟩) hgr).trans r3; have n0 := (hw'.cell (p := ⟨rb, 0, none⟩) hrl).trans q0; go_simp; first | done | exact rfl)
             generalize hfr : Act.mk _ _ = fr
             with_reducible refine hK fr ?_
             clear hK K)
      refine wpQuiet_nil ?_
      subst hfr
      intro W' hW'
      have plz := HJ.out.below hW'
      have HEz := Lib.hid (HE.out.below hW')
      clear a0 a1 a2 a3 r0 r1 r2 r3 q0 q1
      go_wp2
      go_roundw
      case rel => exact ⟨j + 1, by go_num, by omega, plz, HEz.out⟩
      case measure => go_light; simp [intOf]; omega
    · obtain rfl : j = m.length := by omega
      clear hEa
      go_wp2_with (fail)
      exact HEX.out _ _ _ _ _ _ _ _ _ _ _ _ _ _ _ _ _ _ _ wr plj
end Go.Proofs.Ytbkbekdeplolnaa
