/- The invariant through Take's second bit. -/
import Derived.Test.YtjnikgliecgbdaaPlainE
namespace Go.Proofs.Ytjnikgliecgbdaa
open Go.RowKit

theorem sl_cast {x : Int} : Bt.slot x = ((sl x : Nat) : Int) := by
  unfold sl Bt.slot
  omega

theorem step_take1 {b : Int} {S : MS} {L : List Nat} {had : Nat → List Int} (h : InvL b S L had) (hb : b ≤ 1000000) {t : Nat} (ht : t < S.T) {f : FS} (hf : (S.th t).frames = [f]) (h1 : f.fn = 1) (hp : f.pc = 1) (hz : Bt.slot (f.r 1) ≠ 0) : InvL (b + 1) (S.slotsStep t) L had := by
  have he : S.slotsStep t = S.stepped ((S.at1 (S.nodeAt (Bt.slot (f.r 1)) 0)).top t { f with r := upd f.r 2 (S.load (S.nodeAt (Bt.slot (f.r 1)) 0)), pc := 2 }) := by
    simp [MS.slotsStep, hf, MS.slotsBit, h1, MS.takeBit, hp, hz]
  rw [he]
  have hw := wrap_one h.acc.1 h.acc.2 hb
  obtain ⟨c0, _, _, _, hfs⟩ := h.head
  have hold := (hfs t ht f (by rw [hf]; simp)).old (.inl hp)
  have s1 : 1 ≤ sl (f.r 1) := by
    have := @sl_cast (f.r 1)
    omega
  have s2 := hold.2.2.2
  have hn : S.nodeAt (Bt.slot (f.r 1)) 0 = ((nodeN S.T (sl (f.r 1)) 0 : Nat) : Int) := by
    rw [sl_cast]
    exact nodeAt_eq S (f := 0) s1 s2 (by omega)
  have hok : S.okAt (S.nodeAt (Bt.slot (f.r 1)) 0) = true := by rw [hn]; exact okAt_node h.fit s1 s2 (by omega)
  have hld : S.load (S.nodeAt (Bt.slot (f.r 1)) 0) = S.words (nodeN S.T (sl (f.r 1)) 0) := by
    rw [sl_cast]
    exact load_node h.fit (f := 0) s1 s2 (by omega)
  refine h.turn ht (x := { S.th t with frames := [{ f with r := upd f.r 2 (S.load (S.nodeAt (Bt.slot (f.r 1)) 0)), pc := 2 }] }) rfl rfl rfl rfl rfl rfl rfl ?_ ?_ ?_ ?_ ?_ ?_ ?_ ?_ ?_
  · exact h.slips
  · show (S.mfault || !S.okAt (S.nodeAt (Bt.slot (f.r 1)) 0)) = false
    rw [h.mfault, hok]
    rfl
  · show (S.fault || decide (1 < wrap64 (wrap64 (S.acc + 1) - S.acc))) = false
    rw [h.fault, hw.1, hw.2]
    rfl
  · show 0 ≤ wrap64 (S.acc + 1) ∧ wrap64 (S.acc + 1) ≤ b + 1
    rw [hw.1]
    have := h.acc
    omega
  · show upd S.th t { S.th t with frames := _ :: (S.th t).frames.tail } = _
    rw [hf]
    rfl
  · simp
  · simp [TS.mine, hf, FS.mine, h1, hp]
  · simp [hf, FS.holds, h1, hp]
  · intro c hw2 c0' cb g hg
    simp only [List.mem_singleton] at hg
    subst hg
    have e1 : upd f.r 2 (S.load (S.nodeAt (Bt.slot (f.r 1)) 0)) 1 = f.r 1 := upd_ne _ _ _ (by decide)
    obtain ⟨c2, _, _, hw3, hfs2⟩ := h.head
    have hcc : c2 = c := by rw [hw2] at hw3; omega
    subst hcc
    have hold2 := (hfs2 t ht f (by rw [hf]; simp)).old (.inl hp)
    refine ⟨.inl h1, .inr (.inr (.inl rfl)), fun _ => ?_, fun _ _ => ?_, fun h2 => absurd h2 (by rw [h1]; decide), fun h2 => absurd h2 (by rw [h1]; decide)⟩
    · show 0 ≤ upd f.r 2 (S.load (S.nodeAt (Bt.slot (f.r 1)) 0)) 1 ∧ Bt.chg (upd f.r 2 (S.load (S.nodeAt (Bt.slot (f.r 1)) 0)) 1) ≤ c2 ∧ (upd f.r 2 (S.load (S.nodeAt (Bt.slot (f.r 1)) 0)) 1 = S.words 2 ∨ Bt.chg (upd f.r 2 (S.load (S.nodeAt (Bt.slot (f.r 1)) 0)) 1) < c2) ∧ sl (upd f.r 2 (S.load (S.nodeAt (Bt.slot (f.r 1)) 0)) 1) ≤ S.N
      rw [e1]
      exact hold2
    · show 1 ≤ sl (upd f.r 2 (S.load (S.nodeAt (Bt.slot (f.r 1)) 0)) 1) ∧ sl (upd f.r 2 (S.load (S.nodeAt (Bt.slot (f.r 1)) 0)) 1) ≤ S.N ∧ (S.words 2 = upd f.r 2 (S.load (S.nodeAt (Bt.slot (f.r 1)) 0)) 1 → upd f.r 2 (S.load (S.nodeAt (Bt.slot (f.r 1)) 0)) 2 = S.words (nodeN S.T (sl (upd f.r 2 (S.load (S.nodeAt (Bt.slot (f.r 1)) 0)) 1)) 0))
      rw [e1, upd_same, hld]
      exact ⟨s1, s2, fun _ => rfl⟩
end Go.Proofs.Ytjnikgliecgbdaa
