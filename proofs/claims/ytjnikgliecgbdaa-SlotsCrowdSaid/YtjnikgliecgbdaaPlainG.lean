/- The invariant through Take's end without a slot. -/
import Derived.Test.YtjnikgliecgbdaaPlainF
namespace Go.Proofs.Ytjnikgliecgbdaa
open Go.RowKit

theorem step_take1z {b : Int} {S : MS} {L : List Nat} {had : Nat → List Int} (h : InvL b S L had) (hb : b ≤ 1000000) {t : Nat} (ht : t < S.T) {f : FS} (hf : (S.th t).frames = [f]) (h1 : f.fn = 1) (hp : f.pc = 1) (hz : Bt.slot (f.r 1) = 0) : InvL (b + 1) (S.slotsStep t) L had := by
  have he : S.slotsStep t = S.stepped (S.back t [0]) := by
    simp [MS.slotsStep, hf, MS.slotsBit, h1, MS.takeBit, hp, hz]
  rw [he]
  have ha := h.acc
  refine h.turn ht (x := { S.th t with frames := [], ret := regs [0] }) rfl rfl rfl rfl rfl rfl rfl ?_ ?_ ?_ ?_ ?_ ?_ ?_ ?_ ?_
  · exact h.slips
  · exact h.mfault
  · show (S.fault || decide (1 < wrap64 (S.acc - S.acc))) = false
    rw [h.fault, show S.acc - S.acc = 0 by omega, show wrap64 0 = 0 by unfold wrap64; omega]
    decide
  · show 0 ≤ S.acc ∧ S.acc ≤ b + 1
    omega
  · show upd S.th t { S.th t with frames := (S.th t).frames.tail, ret := regs [0] } = _
    rw [hf]
    rfl
  · simp
  · simp [TS.mine, hf, FS.mine, h1, hp]
  · simp [hf, FS.holds, h1, hp]
  · intro c _ _ _ g hg
    exact absurd hg (by simp)
end Go.Proofs.Ytjnikgliecgbdaa
