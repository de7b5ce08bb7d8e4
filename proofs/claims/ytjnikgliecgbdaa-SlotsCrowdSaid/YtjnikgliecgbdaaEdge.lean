/- Contracts of packages word, edge and badge: each answer as arithmetic on the word. -/
import Derived.Test.YtjnikgliecgbdaaProg
import Derived.Test.YtjnikgliecgbdaaBits
import Derived.WalkKit
import Derived.BigQuiet
import Derived.Deep.QuietTactic
namespace Go.Proofs.Ytjnikgliecgbdaa
open Go.RowKit

theorem slot_bd (x : Int) : 0 ≤ Bt.slot x ∧ Bt.slot x ≤ 4095 := by unfold Bt.slot; omega
theorem gen_bd (x : Int) : 0 ≤ Bt.gen x := by unfold Bt.gen Bt.p50; omega

theorem edge_Slot (x : Int) (w : World) : Calls Try.prog 18 #[.int .u64 x] w fun e w' => e = .returned (.int .i64 (Bt.slot x)) ∧ w = w' := by
  have hb := slot_bd x
  rw [← Bt.f_0_12] at *
  go_enter Try.func18, Try.ntmps18
  go_wp2
  go_ret
  exact ⟨rfl, rfl⟩
theorem edge_Gen (x : Int) (w : World) : Calls Try.prog 63 #[.int .u64 x] w fun e w' => e = .returned (.int .u64 (Bt.gen x)) ∧ w = w' := by
  rw [← Bt.f_12_50]
  go_enter Try.func63, Try.ntmps63
  go_wp2
  go_ret
  exact ⟨rfl, rfl⟩
theorem edge_Node (x : Int) (w : World) : Calls Try.prog 42 #[.int .u64 x] w fun e w' => e = .returned (.int .u64 (Bt.node x)) ∧ w = w' := by
  rw [← Bt.f_0_62]
  go_enter Try.func42, Try.ntmps42
  go_wp2
  go_ret
  exact ⟨rfl, rfl⟩
theorem edge_Plain (x : Int) (w : World) : Calls Try.prog 17 #[.int .u64 x] w fun e w' => e = .returned (.bool (x == Bt.node x)) ∧ w = w' := by
  go_enter Try.func17, Try.ntmps17
  go_wp2_with (go_at_call 42; refine (edge_Node _ _).mono ?_; rintro e w' ⟨rfl, rfl⟩)
  go_ret
  exact ⟨rfl, rfl⟩
theorem edge_To (x y : Int) (w : World) : Calls Try.prog 41 #[.int .u64 x, .int .u64 y] w fun e w' => e = .returned (.bool (Bt.node x == Bt.node y)) ∧ w = w' := by
  go_enter Try.func41, Try.ntmps41
  go_wp2_with (go_at_call 42; refine (edge_Node _ _).mono ?_; rintro e w' ⟨rfl, rfl⟩)
  go_ret
  exact ⟨rfl, rfl⟩
theorem edge_Make (s g : Int) (w : World) (h0 : 0 ≤ s) (h1 : s ≤ 4095) : Calls Try.prog 53 #[.int .i64 s, .int .u64 g] w fun e w' => e = .returned (.int .u64 (s + 4096 * (g % Bt.p50))) ∧ w = w' := by
  rw [← Bt.w_12_50 s g h0 (by omega)]
  go_enter Try.func53, Try.ntmps53
  go_wp2
  go_ret
  exact ⟨rfl, rfl⟩
theorem badge_Slot (x : Int) (w : World) : Calls Try.prog 56 #[.int .u64 x] w fun e w' => e = .returned (.int .i64 (Bt.slot x)) ∧ w = w' := by
  have hb := slot_bd x
  rw [← Bt.f_0_12] at *
  go_enter Try.func56, Try.ntmps56
  go_wp2
  go_ret
  exact ⟨rfl, rfl⟩
theorem badge_Head (s g : Int) (w : World) (h0 : 0 ≤ s) (h1 : s ≤ 4095) : Calls Try.prog 50 #[.int .i64 s, .int .u64 g] w fun e w' => e = .returned (.int .u64 (s + 4096 * (g % Bt.p52))) ∧ w = w' := by
  rw [← Bt.w_12_52 s g h0 (by omega)]
  go_enter Try.func50, Try.ntmps50
  go_wp2
  go_ret
  exact ⟨rfl, rfl⟩
end Go.Proofs.Ytjnikgliecgbdaa
