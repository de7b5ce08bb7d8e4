/- The law where it asks nothing. -/
import Derived.Test.YtjnikgliecgbdaaGo
namespace Go.Proofs.Ytjnikgliecgbdaa
open Go.RowKit

set_option maxRecDepth 1000000 in
set_option maxHeartbeats 1000000 in
theorem crowd_no (T N st : Int) (p : Option Addr) (n c : Nat) (w : World) (h : mayB T N st = false ∨ 600 < n) :
    Calls Try.prog 3 #[.agg #[.int .i64 T, .int .i64 N, .int .u64 st], .slice p n c] w fun e w' => e = .returned (.bool true) ∧ Below w.heap.size w w' := by
  cases hm : mayB T N st with
  | false =>
    have HM := Lib.hid hm
    clear hm h
    go_enter Try.func3, Try.ntmps3
    go_wp2_with fail
    refine (law_May T N st _).mono ?_
    rintro e w1 ⟨rfl, hb1⟩
    rw [HM.out]
    have HB1 : Hid (Below w.heap.size w w1) := Lib.hid (((Below.refl _ _).alloc (Nat.le_refl _) _).trans (below_le hb1 (by simp)))
    clear hb1
    go_wp2_with fail
    refine (lives_true _).mono ?_
    rintro e w2 ⟨rfl, hb2⟩
    have HB2 := Lib.hid hb2
    clear hb2
    go_wp2_with fail
    go_ret
    exact ⟨rfl, HB1.out.trans (below_le HB2.out HB1.out.size)⟩
  | true =>
    have HM := Lib.hid hm
    have hn : 600 < n := by
      rcases h with h | h
      · rw [hm] at h; cases h
      · exact h
    have hnI : (600 : Int) < n := by omega
    clear hm h
    go_enter Try.func3, Try.ntmps3
    go_wp2_with fail
    refine (law_May T N st _).mono ?_
    rintro e w1 ⟨rfl, hb1⟩
    rw [HM.out]
    have HB1 : Hid (Below w.heap.size w w1) := Lib.hid (((Below.refl _ _).alloc (Nat.le_refl _) _).trans (below_le hb1 (by simp)))
    clear hb1
    go_wp2_with fail
    refine (lives_true _).mono ?_
    rintro e w2 ⟨rfl, hb2⟩
    have HB2 := Lib.hid hb2
    clear hb2
    go_wp2_with fail
    go_ret
    exact ⟨rfl, HB1.out.trans (below_le HB2.out HB1.out.size)⟩
end Go.Proofs.Ytjnikgliecgbdaa
