/- The invariant through a swing of Take that fails. -/
import Derived.Test.YtjnikgliecgbdaaPlainG
namespace Go.Proofs.Ytjnikgliecgbdaa
open Go.RowKit

theorem step_take2n {b : Int} {S : MS} {L : List Nat} {had : Nat → List Int} (h : InvL b S L had) (hb : b ≤ 1000000) {t : Nat} (ht : t < S.T) {f : FS} (hf : (S.th t).frames = [f]) (h1 : f.fn = 1) (hp : f.pc = 2) (hno : S.casOk 2 (f.r 1) = false) : InvL (b + 1) (S.slotsStep t) L had := by
  have he : S.slotsStep t = S.stepped ((S.top t { f with pc := 0 }).cas 2 (f.r 1) (Bt.head (IntKind.i64.wrap (f.r 2)) (Bt.chg (f.r 1) + 1))) := by
    simp [MS.slotsStep, hf, MS.slotsBit, h1, MS.takeBit, hp, hno]
  rw [he]
  have hw := wrap_one h.acc.1 h.acc.2 hb
  have hok := okAt_two h.fit
  refine h.turn ht (x := { S.th t with frames := [{ f with pc := 0 }] }) rfl rfl rfl ?_ rfl rfl rfl ?_ ?_ ?_ ?_ ?_ ?_ ?_ ?_ ?_
  · show (if S.casOk 2 (f.r 1) = true then _ else S.words) = S.words
    rw [if_neg (by rw [hno]; decide)]
  · exact h.slips
  · show (S.mfault || !S.okAt 2) = false
    rw [h.mfault, hok]
    rfl
  · show (S.fault || decide (1 < wrap64 (wrap64 (S.acc + 1) - S.acc))) = false
    rw [h.fault, hw.1, hw.2]
    rfl
  · show 0 ≤ wrap64 (S.acc + 1) ∧ wrap64 (S.acc + 1) ≤ b + 1
    rw [hw.1]
    have := h.acc
    omega
  · show upd S.th t { S.th t with frames := _ :: (S.th t).frames.tail } = _
    rw [hf]
    rfl
  · simp
  · simp [TS.mine, hf, FS.mine, h1, hp]
  · simp [hf, FS.holds, h1, hp]
  · intro c _ _ _ g hg
    simp only [List.mem_singleton] at hg
    subst hg
    exact ⟨.inl h1, .inl rfl, fun q => absurd q (by show ¬ ((0 : Int) = 1 ∨ (0 : Int) = 2); decide), fun _ h2 => absurd h2 (by show ¬ ((0 : Int) = 2); decide), fun h2 => absurd h2 (by rw [h1]; decide), fun h2 => absurd h2 (by rw [h1]; decide)⟩
end Go.Proofs.Ytjnikgliecgbdaa
