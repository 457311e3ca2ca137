/- TellNobody: a nil line takes nothing. -/
import Derived.Test.YtmhbibcfbencnaaTeB
namespace Go.Proofs.Ytmhbibcfbencnaa
open Go.RowKit Go.Lib
set_option linter.unusedSimpArgs false
set_option linter.unusedVariables false
set_option maxRecDepth 100000 in
set_option maxHeartbeats 4000000 in
theorem law_TellNobody (k : ByteArray) (hk : k.size ≤ maxLen) (t : Int) (wt : (Lit.int .i64 t).wf = true) (v : Int) (wv : (Lit.int .i64 v).wf = true) (w : World) :
    Calls Try.prog 5 #[.string k, .int .i64 t, .int .i64 v] w fun e w' => e = .returned (.bool true) ∧ Below w.heap.size w w' := by
  have hzk := Int.natCast_nonneg k.size
  have hkm := hk
  unfold maxLen at hkm
  clear wt wv
  go_enter Try.func5, Try.ntmps5
  by_cases hkz : 100 < k.size
  · go_wp2_with (fail)
    go_wp2_with (fail)
    refine (twakes_any _).mono ?_
    rintro e w2 ⟨rfl, hB2⟩
    have HBe := Lib.hid ((Below.refl w.heap.size w).trans (hB2.mono (Below.refl w.heap.size w).size))
    clear hB2
    go_wp2_with (fail)
    go_ret
    exact ⟨rfl, HBe.out⟩
  · go_wp2_with (fail)
    refine (tput_nil _ _ _ _).mono ?_
    rintro e w2 ⟨rfl, rfl⟩
    go_wp2_with (fail)
    refine (tmark_nil _ _).mono ?_
    rintro e w2 ⟨rfl, rfl⟩
    go_wp2_with (fail)
    refine (tat_nil _).mono ?_
    rintro e w2 ⟨rfl, rfl⟩
    go_wp2_with (fail)
    refine (topen_nil _).mono ?_
    rintro e w2 ⟨rfl, rfl⟩
    go_wp2_with (fail)
    refine (ttwin_nil _).mono ?_
    rintro e w2 ⟨rfl, rfl⟩
    go_wp2_with (fail)
    refine (twakes_any _).mono ?_
    rintro e w3 ⟨rfl, hB3⟩
    have HBe := Lib.hid ((Below.refl w.heap.size w).trans (hB3.mono (Below.refl w.heap.size w).size))
    clear hB3
    go_wp2_with (fail)
    go_ret
    exact ⟨rfl, HBe.out⟩
end Go.Proofs.Ytmhbibcfbencnaa
