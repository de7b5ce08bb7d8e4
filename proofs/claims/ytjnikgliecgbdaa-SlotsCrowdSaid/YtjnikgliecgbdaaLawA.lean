/- Contracts of the answers' own functions: May, At, Words, and of the words and the configuration of a machine. -/
import Derived.Test.YtjnikgliecgbdaaNewD
namespace Go.Proofs.Ytjnikgliecgbdaa
open Go.RowKit

set_option maxHeartbeats 400000 in
theorem mem_Words {L : Lay} {S : MS} {w : World} (h : Rep L S w) :
    Calls Try.prog 33 #[.pointer (some ⟨L.s.me, 0, none⟩)] w fun e w' => Cloned w S.nw S.words e w' := by
  have c0 := h.cme.cell 0 (by decide)
  simp only [memCell] at c0
  have hn : S.nw ≤ 5000 := by have := h.nw; have := h.T6; have := h.N250; omega
  have hn1 : 1 ≤ S.nw := by have := h.nw; omega
  have H := Lib.hid h
  clear h
  go_enter Try.func33, Try.ntmps33
  go_wp2_with (go_at_call 48; refine (clone_u64 H.out.cwb hn1 hn).mono ?_; rintro e w1 ⟨b, c', rfl, hc⟩)
  go_ret
  exact ⟨b, c', rfl, hc⟩

def confA (T N st : Int) : Value := .agg #[.int .i64 T, .int .i64 N, .int .u64 st]

set_option maxHeartbeats 400000 in
theorem plan_Conf {L : Lay} {S : MS} {w : World} (h : Rep L S w) :
    Calls Try.prog 31 #[.pointer (some ⟨L.s.p, 0, none⟩)] w fun e w' => e = .returned (.agg #[.int .i64 S.T, .int .i64 S.N, .int .u64 S.stamps]) ∧ Below w.heap.size w w' := by
  have c0 := h.cp.cell 0 (by decide)
  have c1 := h.cp.cell 1 (by decide)
  have c2 := h.cp.cell 2 (by decide)
  have hlt := h.cp.lt
  have hne : L.s.p ≠ w.heap.size := by omega
  simp only [planCell] at c0 c1 c2
  clear h
  go_enter Try.func31, Try.ntmps31
  go_wp2
  have hal := heap_alloc_new w (.cells #[.int .i64 S.T, .int .i64 S.N, .int .u64 S.stamps] 24)
  exact bodyPost_ret (v := .agg #[.int .i64 S.T, .int .i64 S.N, .int .u64 S.stamps]) (results_cell_row (p := 2) (ty := 24) rfl _ _ w.heap.size _ _ (0, 0) _ rfl hal Try.underlying24 rfl (by kernel_rfl)) rfl ⟨rfl, (Below.refl _ _).alloc (Nat.le_refl _) _⟩

theorem retB {a b : Bool} (h : a = b) : Ending.returned (Value.bool a) = Ending.returned (Value.bool b) := by rw [h]
theorem retI {a b : Int} (h : a = b) : Ending.returned (Value.int .i64 a) = Ending.returned (Value.int .i64 b) := by rw [h]

def mayB (T N st : Int) : Bool := ((((decide (0 < T) && decide (T < 7)) && decide (6 < N)) && decide (N < 251)) && decide (0 < st)) && decide (st ≤ 1099511627776)

set_option maxHeartbeats 400000 in
theorem law_May (T N st : Int) (w : World) :
    Calls Try.prog 4 #[.agg #[.int .i64 T, .int .i64 N, .int .u64 st]] w fun e w' => e = .returned (.bool (mayB T N st)) ∧ Below w.heap.size w w' := by
  go_enter Try.func4, Try.ntmps4
  go_wp2
  all_goals go_ret
  all_goals refine ⟨?_, (Below.refl _ _).alloc (Nat.le_refl _) _⟩
  all_goals (refine retB ?_; rw [Bool.eq_iff_iff]; simp only [mayB, Bool.and_eq_true, decide_eq_true_eq, Bool.false_eq_true, false_iff]; omega)

set_option maxHeartbeats 400000 in
theorem law_At (T N : Nat) (st : Int) (s : Nat) (w : World) (hT : T ≤ 6) (hN : N ≤ 250) (h1 : 1 ≤ s) (h2 : s ≤ N) :
    Calls Try.prog 55 #[.agg #[.int .i64 T, .int .i64 N, .int .u64 st], .int .i64 s, .int .i64 0] w fun e w' => e = .returned (.int .i64 ((nodeN T s 0 : Nat) : Int)) ∧ Below w.heap.size w w' := by
  have a1 : ¬ (s : Int) < 1 := by omega
  have a2 : ¬ (N : Int) < s := by omega
  have a3 : (s : Int) ≤ N := by omega
  have e1 : IntKind.i64.wrap (8 * (T : Int)) = 8 * T := IntWalk.i64_in _ (by omega)
  have e2 : IntKind.i64.wrap (3 + 8 * (T : Int)) = 3 + 8 * T := IntWalk.i64_in _ (by omega)
  have e3 : IntKind.i64.wrap ((s : Int) - 1) = s - 1 := IntWalk.i64_in _ (by omega)
  have e4 : IntKind.i64.wrap (7 * ((s : Int) - 1)) = 7 * (s - 1) := IntWalk.i64_in _ (by omega)
  have e5 : IntKind.i64.wrap (3 + 8 * (T : Int) + 7 * ((s : Int) - 1)) = 3 + 8 * T + 7 * (s - 1) := IntWalk.i64_in _ (by omega)
  go_enter Try.func55, Try.ntmps55
  go_wp2
  go_ret
  refine ⟨?_, (Below.refl _ _).alloc (Nat.le_refl _) _⟩
  refine retI ?_
  unfold nodeN
  omega
end Go.Proofs.Ytjnikgliecgbdaa
