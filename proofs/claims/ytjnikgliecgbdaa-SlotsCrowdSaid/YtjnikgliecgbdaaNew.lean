/- Contracts of what makes a machine: the plan, the words at first, the memory, the guard, the threads. -/
import Derived.Test.YtjnikgliecgbdaaStepB
import Derived.Carry
namespace Go.Proofs.Ytjnikgliecgbdaa
open Go.RowKit

/-- The world, of which no more is known than R. -/
theorem wp_forget {P : Program} {c : Code} {Q : Exit → Act → World → Prop} {a : Act} {w : World} (R : World → Prop) (hr : R w) (h : ∀ w', R w' → Code.wp P c Q a w') : Code.wp P c Q a w := h w hr

def confOk (T N st : Int) : Bool := ((decide (1 ≤ T) && decide (T ≤ 6)) && (decide (7 ≤ N) && decide (N ≤ 250))) && (decide (1 ≤ st) && decide (st ≤ 1099511627776))

set_option maxHeartbeats 800000 in
theorem plan_May_yes (T N st : Int) (w : World) (h1 : 1 ≤ T) (h2 : T ≤ 6) (h3 : 7 ≤ N) (h4 : N ≤ 250) (h5 : 1 ≤ st) (h6 : st ≤ 1099511627776) :
    Calls Try.prog 47 #[.agg #[.int .i64 T, .int .i64 N, .int .u64 st]] w fun e w' => e = .returned (.bool true) ∧ w' = w.alloc (.cells #[.int .i64 T, .int .i64 N, .int .u64 st] 24) := by
  have C1 := Lib.hid fun w => plan_in T 1 6 w
  have C2 := Lib.hid fun w => plan_in N 7 250 w
  rw [show (decide (1 ≤ T) && decide (T ≤ 6)) = true by simp [h1, h2]] at C1
  rw [show (decide (7 ≤ N) && decide (N ≤ 250)) = true by simp [h3, h4]] at C2
  go_enter Try.func47, Try.ntmps47
  go_wp2_with fail
  refine (C1.out _).mono ?_
  rintro e w' ⟨rfl, rfl⟩
  go_wp2_with fail
  refine (C2.out _).mono ?_
  rintro e w' ⟨rfl, rfl⟩
  go_wp2
  go_ret
  exact ⟨rfl, rfl⟩

set_option maxHeartbeats 800000 in
theorem plan_New_yes (T N st : Int) (w : World) (h1 : 1 ≤ T) (h2 : T ≤ 6) (h3 : 7 ≤ N) (h4 : N ≤ 250) (h5 : 1 ≤ st) (h6 : st ≤ 1099511627776) :
    Calls Try.prog 22 #[.agg #[.int .i64 T, .int .i64 N, .int .u64 st]] w fun e w' => e = .returned (.tuple #[.pointer (some ⟨w.heap.size + 2, 0, none⟩), .int .i64 0]) ∧
      w' = ((w.alloc (.cells #[.int .i64 T, .int .i64 N, .int .u64 st] 24)).alloc (.cells #[.int .i64 T, .int .i64 N, .int .u64 st] 24)).alloc (.cells #[.int .i64 T, .int .i64 N, .int .u64 st] 103) := by
  go_enter Try.func22, Try.ntmps22
  go_wp2_with (go_at_call 47; refine (plan_May_yes T N st _ h1 h2 h3 h4 h5 h6).mono ?_; rintro e w' ⟨rfl, rfl⟩)
  go_ret2
  exact ⟨rfl, rfl⟩

theorem order_Info (leaf : Bool) (c : Nat) (hc : c ≤ 3) (w : World) :
    Calls Try.prog 51 #[.bool leaf, .int .i64 c] w fun e w' => e = .returned (.int .u64 (2 * c + if leaf then 1 else 0)) ∧ w = w' := by
  match c, hc with
  | 0, _ | 1, _ | 2, _ | 3, _ =>
    cases leaf <;>
    · go_enter Try.func51, Try.ntmps51
      go_wp2
      go_ret
      exact ⟨by rfl, rfl⟩
  | k + 4, h => exact absurd h (by omega)

/-! ### The words at first -/
def nodeN (T s f : Nat) : Nat := 3 + 8 * T + 7 * (s - 1) + f
def putNode (T : Nat) (g : Nat → Int) (s : Nat) (info l r : Int) : Nat → Int := upd (upd (upd g (nodeN T s 2) info) (nodeN T s 4) l) (nodeN T s 5) r
def headW : Nat → Int := upd (upd (upd (fun _ => 0) 0 1) 1 3) 2 6
def treeW (T : Nat) : Nat → Int := putNode T (putNode T (putNode T (putNode T (putNode T headW 1 6 2 5) 2 4 3 4) 3 3 0 0) 4 5 0 0) 5 7 0 0
/-- The links of the slots from 6 on, below k. -/
def linkW (T k : Nat) : Nat → Int := fun a => if nodeN T 6 0 ≤ a ∧ (a - nodeN T 1 0) % 7 = 0 ∧ (a - nodeN T 1 0) / 7 + 1 < k then (((a - nodeN T 1 0) / 7 + 2 : Nat) : Int) else treeW T a

theorem linkW_start (T : Nat) : linkW T 6 = treeW T := by
  funext a
  unfold linkW
  rw [if_neg]
  unfold nodeN
  omega
theorem linkW_step (T k : Nat) (hk : 6 ≤ k) : linkW T (k + 1) = upd (linkW T k) (nodeN T k 0) ((k + 1 : Nat) : Int) := by
  funext a
  unfold linkW upd
  dsimp only
  by_cases e : a = nodeN T k 0
  · subst e
    rw [if_pos rfl, if_pos]
    · unfold nodeN; congr 1; omega
    · unfold nodeN; omega
  · rw [if_neg e]
    by_cases c : nodeN T 6 0 ≤ a ∧ (a - nodeN T 1 0) % 7 = 0 ∧ (a - nodeN T 1 0) / 7 + 1 < k
    · rw [if_pos c, if_pos ⟨c.1, c.2.1, by omega⟩]
    · rw [if_neg c, if_neg]
      intro c'
      unfold nodeN at *
      omega

end Go.Proofs.Ytjnikgliecgbdaa
