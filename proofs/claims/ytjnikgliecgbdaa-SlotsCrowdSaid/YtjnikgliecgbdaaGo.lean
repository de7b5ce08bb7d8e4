/- The law's example holds; what the walk of the law begins with. -/
import Derived.Test.YtjnikgliecgbdaaCrowd
namespace Go.Proofs.Ytjnikgliecgbdaa
open Go.RowKit

theorem runT_T (t : Nat) : ∀ (n : Nat) (S : MS), (S.runT t n).T = S.T
  | 0, _ => rfl
  | n + 1, S => by
    rw [MS.runT]
    split
    · rfl
    · rw [runT_T t n, slotsStep_T]
theorem runT_inv {t : Nat} : ∀ (n k : Nat) (S : MS), InvA (n + k) S → t < S.T → InvA k (S.runT t n)
  | 0, k, S, h, _ => by rw [Nat.zero_add] at h; exact h
  | n + 1, k, S, h, ht => by
    rw [MS.runT]
    split
    · exact goods.mono _ _ _ h (by omega)
    · exact runT_inv n k _ (goods.step (n + k) S t (by rw [show n + k + 1 = n + 1 + k by omega]; exact h) ht) (by rw [slotsStep_T]; exact ht)
theorem call_inv {k t : Nat} {S : MS} (h : InvA (k + 1) S) (ht : t < S.T) (hf : (S.th t).frames = []) : InvA k (S.call t 1 []) := by
  obtain ⟨L, had, h⟩ := h
  exact ⟨L, had, (call_take h ht hf).mono (by omega)⟩
theorem start_A (T N : Nat) (st : Int) (hT1 : 1 ≤ T) (hT6 : T ≤ 6) (hN : 7 ≤ N) (hN2 : N ≤ 250) (k : Nat) (hk : k ≤ 5000) : InvA k (startMS T N st) :=
  ⟨_, _, start_inv hT1 hT6 hN hN2 (b := 100000 - k) (by omega)⟩

theorem live_A : InvA 300 ((startMS 1 7 5).call 0 1 []) := call_inv (start_A 1 7 5 (by decide) (by decide) (by decide) (by decide) 301 (by decide)) (by decide) (by kernel_rfl)
theorem live_T : ((startMS 1 7 5).call 0 1 []).T = 1 := by kernel_rfl
theorem live_B : InvA 200 (liveA.call 0 1 []) := by
  have h : InvA 250 liveA := runT_inv 50 250 _ live_A (by rw [live_T]; decide)
  have hT : liveA.T = 1 := (runT_T 0 50 _).trans live_T
  exact goods.mono 249 200 _ (call_inv h (by rw [hT]; decide) liveA_end) (by decide)
theorem live_C : InvA 100 (liveB.call 0 1 []) := by
  have hT : liveA.T = 1 := (runT_T 0 50 _).trans live_T
  have h : InvA 150 liveB := runT_inv 50 150 _ live_B (by show liveA.T > 0; rw [hT]; decide)
  have hT2 : liveB.T = 1 := (runT_T 0 50 _).trans hT
  exact goods.mono 149 100 _ (call_inv h (by rw [hT2]; decide) liveB_end) (by decide)

theorem lives_true (w : World) : Calls Try.prog 5 #[] w fun e w' => e = .returned (.bool true) ∧ Below w.heap.size w w' :=
  law_lives goods (goods.mono _ _ _ live_A (by decide)) (goods.mono _ _ _ live_B (by decide)) (goods.mono _ _ _ live_C (by decide)) w

theorem info_rowE : (Try.prog.info? 39).map (fun i => (i.zero, i.size, i.bytes)) = some (some (.slice none 0 0), 1, 24) := by kernel_rfl
theorem info_bool : (Try.prog.info? 4).map (fun i => (i.zero, i.size, i.bytes)) = some (some (.bool false), 1, 1) := by kernel_rfl

/-- A row that was just made, of one value. -/
def MadeRow (ty : TypeId) (z : Value) (n : Nat) (w w' : World) : Prop := Below w.heap.size w w' ∧ w'.heap.size = w.heap.size + 1 ∧ Cells w' w.heap.size ty n (fun _ => z)

theorem madeRow (w : World) (ty : TypeId) (z : Value) (n : Nat) : MadeRow ty z n w (w.alloc (.cells (madeCells #[z] (n * 1)) ty)) := by
  refine ⟨(Below.refl _ _).alloc (Nat.le_refl _) _, by simp, Cells.new w _ ty n _ ?_ fun i hi => ?_⟩
  · rw [size_madeCells]; omega
  · rw [← Array.getElem?_toList, Nat.mul_one, toList_madeCells_one]
    simp [hi]

theorem mk_rows (w : World) (T : Nat) (hT : T ≤ 6) : ∃ w', (Instr.makeSlice 32 (.int .i64 (T : Int)) (.int .i64 (T : Int))).run Try.prog w = .ok (.slice (some ⟨w.heap.size, 0, none⟩) T T) w' ∧ MadeRow 39 (.slice none 0 0) T w w' := by
  obtain ⟨i0, hi, hz0, hz1, hz2⟩ := info_parts info_rowE
  have := run_makeSlice (P := Try.prog) w 32 39 i0 _ Try.underlying32 hi hz0 .i64 .i64 T T (by omega) (by omega) (by rw [hz1]; omega) (by rw [hz2]; omega) (by omega)
  rw [Int.toNat_natCast, hz1] at this
  exact ⟨_, this, madeRow w _ _ T⟩
theorem mk_marks (w : World) (T : Nat) (hT : T ≤ 6) : ∃ w', (Instr.makeSlice 33 (.int .i64 (T : Int)) (.int .i64 (T : Int))).run Try.prog w = .ok (.slice (some ⟨w.heap.size, 0, none⟩) T T) w' ∧ MadeRow 4 (.bool false) T w w' := by
  obtain ⟨i0, hi, hz0, hz1, hz2⟩ := info_parts info_bool
  have := run_makeSlice (P := Try.prog) w 33 4 i0 _ Try.underlying33 hi hz0 .i64 .i64 T T (by omega) (by omega) (by rw [hz1]; omega) (by rw [hz2]; omega) (by omega)
  rw [Int.toNat_natCast, hz1] at this
  exact ⟨_, this, madeRow w _ _ T⟩

theorem crowd_start {w w1 w2 w3 w4 : World} {T N : Nat} {st : Int} {L : Lay} (h3 : 7 ≤ N) (hb1 : Below w.heap.size w w1) (hc : Cells w1 w.heap.size 24 3 (crowdConf ⟨w, T, N, st, L.s, w.heap.size, w2.heap.size, w3.heap.size⟩))
    (hk : Took w1 T N st L (startMS T N st) w2) (hm3 : MadeRow 39 (.slice none 0 0) T w2 w3) (hm4 : MadeRow 4 (.bool false) T w3 w4) :
    Crowd ⟨w, T, N, st, L.s, w.heap.size, w2.heap.size, w3.heap.size⟩ L (startMS T N st) (fun _ => []) (fun _ => false) (fun _ => .slice none 0 0) w4 := by
  have hlt := hc.lt
  have s12 := hk.below.size
  have s34 := hm3.2.1
  have b24 : Below w2.heap.size w2 w4 := hm3.1.trans (below_le hm4.1 (by omega))
  have hT : (startMS T N st).T = T := by rw [start_eq h3]; rfl
  refine ⟨hk.rep.thru b24, rfl, hT, hb1.trans (below_le (hk.below.trans (below_le b24 s12)) (by omega)), fun b hb => hk.free b (Nat.lt_trans hb hlt), hk.free _ hlt, hk.rep.fresh _ (Nat.le_refl _), hk.rep.fresh _ (show w2.heap.size ≤ w3.heap.size by omega),
    by show w.heap.size ≤ w2.heap.size; omega, by show w.heap.size ≤ w3.heap.size; omega, (hc.below hk.below).below b24, hm3.2.2.below hm4.1, hm4.2.2, fun t _ => World.ownsRow_nil _ _ _ _, fun t _ g hg => absurd hg (by simp [Value.ownBlock]), fun t u _ _ _ g hg => absurd hg (by simp [Value.ownBlock])⟩
end Go.Proofs.Ytjnikgliecgbdaa
