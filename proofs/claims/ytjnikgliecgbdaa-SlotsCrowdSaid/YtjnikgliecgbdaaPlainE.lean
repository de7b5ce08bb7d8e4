/- The invariant through the bits of Take and Give. -/
import Derived.Test.YtjnikgliecgbdaaPlainD
namespace Go.Proofs.Ytjnikgliecgbdaa
open Go.RowKit

theorem InvL.mem {b : Int} {S : MS} {L : List Nat} {had : Nat → List Int} (h : InvL b S L had) {s : Nat} (hs : s ∈ L) : 6 ≤ s ∧ s ≤ S.N := by
  have := h.each.subset (List.mem_append_left _ hs)
  obtain ⟨i, hi, rfl⟩ := List.mem_map.1 this
  have := List.mem_range.1 hi
  have := h.fit.N7
  omega
theorem InvL.hd {b : Int} {S : MS} {L : List Nat} {had : Nat → List Int} (h : InvL b S L had) : L.headD 0 ≤ 250 := by
  have hN := h.fit.N250
  cases L with
  | nil => simp
  | cons s l => have := h.mem (s := s) (by simp); simp; omega

theorem InvL.hdN {b : Int} {S : MS} {L : List Nat} {had : Nat → List Int} (h : InvL b S L had) : sl (S.words 2) ≤ S.N := by
  obtain ⟨c, c0, cb, hw, _⟩ := h.head
  have hd := h.hd
  have h7 := h.fit.N7
  have : L.headD 0 ≤ S.N := by
    cases L with
    | nil => simp
    | cons s l => exact (h.mem (s := s) (by simp)).2
  unfold sl Bt.slot
  rw [hw]
  omega

theorem wrap_one {x b : Int} (h0 : 0 ≤ x) (h1 : x ≤ b) (hb : b ≤ 1000000) : wrap64 (x + 1) = x + 1 ∧ wrap64 (x + 1 - x) = 1 := by
  unfold wrap64
  omega

theorem step_take0 {b : Int} {S : MS} {L : List Nat} {had : Nat → List Int} (h : InvL b S L had) (hb : b ≤ 1000000) {t : Nat} (ht : t < S.T) {f : FS} (hf : (S.th t).frames = [f]) (h1 : f.fn = 1) (hp : f.pc = 0) : InvL (b + 1) (S.slotsStep t) L had := by
  have he : S.slotsStep t = S.stepped ((S.at1 2).top t { f with r := upd f.r 1 (S.load 2), pc := 1 }) := by
    simp [MS.slotsStep, hf, MS.slotsBit, h1, MS.takeBit, hp]
  rw [he]
  have hw := wrap_one h.acc.1 h.acc.2 hb
  have hok := okAt_two h.fit
  refine h.turn ht (x := { S.th t with frames := [{ f with r := upd f.r 1 (S.load 2), pc := 1 }] }) rfl rfl rfl rfl rfl rfl rfl ?_ ?_ ?_ ?_ ?_ ?_ ?_ ?_ ?_
  · exact h.slips
  · show (S.mfault || !S.okAt 2) = false
    rw [h.mfault, hok]
    rfl
  · show (S.fault || decide (1 < wrap64 (wrap64 (S.acc + 1) - S.acc))) = false
    rw [h.fault, hw.1, hw.2]
    rfl
  · show 0 ≤ wrap64 (S.acc + 1) ∧ wrap64 (S.acc + 1) ≤ b + 1
    rw [hw.1]
    have := h.acc
    omega
  · show upd S.th t { S.th t with frames := _ :: (S.th t).frames.tail } = _
    rw [hf]
    rfl
  · simp
  · simp [TS.mine, hf, FS.mine, h1, hp]
  · simp [hf, FS.holds, h1, hp]
  · intro c hw2 c0 cb g hg
    simp only [List.mem_singleton] at hg
    subst hg
    refine ⟨.inl h1, .inr (.inl rfl), fun _ => ?_, fun _ h2 => absurd h2 (by show ¬ ((1 : Int) = 2); decide), fun h2 => absurd h2 (by rw [h1]; decide), fun h2 => absurd h2 (by rw [h1]; decide)⟩
    show 0 ≤ upd f.r 1 (S.load 2) 1 ∧ Bt.chg (upd f.r 1 (S.load 2) 1) ≤ c ∧ (upd f.r 1 (S.load 2) 1 = S.words 2 ∨ _) ∧ sl (upd f.r 1 (S.load 2) 1) ≤ S.N
    rw [upd_same, load_two h.fit]
    have hd := h.hd
    refine ⟨by rw [hw2]; omega, ?_, .inl rfl, ?_⟩
    · rw [hw2]
      unfold Bt.chg Bt.p52
      omega
    · exact h.hdN
end Go.Proofs.Ytjnikgliecgbdaa
