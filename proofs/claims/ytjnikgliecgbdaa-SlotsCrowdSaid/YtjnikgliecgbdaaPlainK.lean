/- The invariant through Take's end with a slot. -/
import Derived.Test.YtjnikgliecgbdaaPlainJ
namespace Go.Proofs.Ytjnikgliecgbdaa
open Go.RowKit

theorem take3_eq {S : MS} {t : Nat} {f : FS} (hf : (S.th t).frames = [f]) (h1 : f.fn = 1) (hp : f.pc = 3) :
    S.slotsStep t = { S with acc := wrap64 (S.acc + 1), mfault := S.mfault || !S.okAt (S.nodeAt (Bt.slot (f.r 1)) 1), th := upd S.th t { S.th t with frames := [], ret := regs [Bt.slot (f.r 1) + 4096 * (S.load (S.nodeAt (Bt.slot (f.r 1)) 1) % Bt.p50)] }, steps := wrap64 (S.steps + 1), fault := S.fault || decide (1 < wrap64 (wrap64 (S.acc + 1) - S.acc)) } := by
  have e : S.slotsStep t = S.stepped ((S.at1 (S.nodeAt (Bt.slot (f.r 1)) 1)).back t [Bt.slot (f.r 1) + 4096 * (S.load (S.nodeAt (Bt.slot (f.r 1)) 1) % Bt.p50)]) := by
    simp [MS.slotsStep, hf, MS.slotsBit, h1, MS.takeBit, hp]
  rw [e]
  unfold MS.stepped MS.back
  dsimp only [MS.at1]
  rw [hf]
  rfl

theorem edge_at {S : MS} {s : Nat} (h1 : 1 ≤ s) (h2 : s ≤ S.N) : S.edge (s : Int) = (s : Int) + 4096 * (S.gens s % Bt.p50) := by
  unfold MS.edge MS.there
  rw [if_pos (by simp; omega)]
  simp
theorem edge_slot {S : MS} {s : Nat} (h1 : 1 ≤ s) (h2 : s ≤ S.N) (hN : S.N ≤ 250) : Bt.slot (S.edge (s : Int)) = (s : Int) := by
  rw [edge_at h1 h2]
  unfold Bt.slot
  omega
theorem edge_leads {S : MS} {s : Nat} (h1 : 1 ≤ s) (h2 : s ≤ S.N) (hN : S.N ≤ 250) (hh : S.held s = true) : S.leads (S.edge (s : Int)) = true := by
  unfold MS.leads
  rw [edge_slot h1 h2 hN]
  unfold MS.there
  simp [hh]
  omega

theorem InvL.told {b : Int} {S : MS} {L : List Nat} {had : Nat → List Int} (h : InvL b S L had) {t : Nat} (ht : t < S.T) {f : FS} (hf : (S.th t).frames = [f]) (h1 : f.fn = 1) (hp : f.pc = 3) :
    Bt.slot (f.r 1) + 4096 * (S.load (S.nodeAt (Bt.slot (f.r 1)) 1) % Bt.p50) = S.edge (Bt.slot (f.r 1)) ∧ 6 ≤ sl (f.r 1) ∧ sl (f.r 1) ≤ S.N ∧ S.held (sl (f.r 1)) = true := by
  have hin : sl (f.r 1) ∈ (S.th t).frames.flatMap FS.holds := by simp [hf, FS.holds, h1, hp]
  have hr := h.ownIn ht (ownH_M (show sl (f.r 1) ∈ ownH had S t from List.mem_append_right _ hin))
  have hh : S.held (sl (f.r 1)) = true := (h.held _).2 (.inr ⟨t, ht, .inr hin⟩)
  refine ⟨?_, hr.1, hr.2, hh⟩
  rw [sl_cast, edge_at (by omega) hr.2]
  have := load_node h.fit (s := sl (f.r 1)) (f := 1) (by omega) hr.2 (by omega)
  have g := (h.genw (sl (f.r 1)) (by omega) hr.2).1
  rw [show S.nodeAt ((sl (f.r 1) : Nat) : Int) 1 = S.nodeAt ((sl (f.r 1) : Nat) : Int) ((1 : Nat) : Int) from rfl, this, g]

theorem step_take3 {b : Int} {S : MS} {L : List Nat} {had : Nat → List Int} (h : InvL b S L had) (hb : b ≤ 1000000) {t : Nat} (ht : t < S.T) {f : FS} (hf : (S.th t).frames = [f]) (h1 : f.fn = 1) (hp : f.pc = 3) :
    InvL (b + 1) (S.slotsStep t) L (upd had t (had t ++ [S.edge (Bt.slot (f.r 1))])) := by
  obtain ⟨he, h6, hN, hh⟩ := h.told ht hf h1 hp
  have hN250 := h.fit.N250
  have hw1 := wrap_one h.acc.1 h.acc.2 hb
  have hokn : S.okAt (S.nodeAt (Bt.slot (f.r 1)) 1) = true := by
    rw [sl_cast, show S.nodeAt ((sl (f.r 1) : Nat) : Int) 1 = S.nodeAt ((sl (f.r 1) : Nat) : Int) ((1 : Nat) : Int) from rfl, nodeAt_eq S (by omega) hN (by omega)]
    exact okAt_node h.fit (by omega) hN (by omega)
  have hse : sl (S.edge (Bt.slot (f.r 1))) = sl (f.r 1) := by
    have q := edge_slot (S := S) (s := sl (f.r 1)) (by omega) hN hN250
    rw [← sl_cast] at q
    unfold sl
    rw [q]
  rw [take3_eq hf h1 hp, he]
  have hmine : ownM had S t = (had t).map sl ++ [sl (f.r 1)] := by simp [ownM, TS.mine, hf, FS.mine, h1, hp]
  have hholds : ownH had S t = (had t).map sl ++ [sl (f.r 1)] := by simp [ownH, hf, FS.holds, h1, hp]
  refine h.go ht (x := { S.th t with frames := [], ret := regs [S.edge (Bt.slot (f.r 1))] }) rfl rfl rfl rfl (fun u hu => upd_ne _ _ _ hu) ?_ h.links ?_ h.nonneg ?_ ?_ ?_ ?_ ?_ h.slips ?_ ?_ ?_
  · intro c c0 cb hw2
    exact ⟨c, c0, by omega, hw2, fun g hg => absurd hg (by simp), fun u hu hn g _ hg => hg.same rfl rfl rfl rfl rfl⟩
  · intro s q1 q2
    have := h.genw s q1 q2
    exact ⟨this.1, this.2.1, Int.le_trans this.2.2 (by omega)⟩
  · simp
  · rw [hmine, upd_same]
    have : TS.mine { S.th t with frames := [], ret := regs [S.edge (Bt.slot (f.r 1))] } = [] := rfl
    rw [this, List.map_append, List.append_nil]
    simp only [List.map_cons, List.map_nil]
    rw [hse]
  · intro u hu e he
    by_cases q : u = t
    · subst q
      rw [upd_same] at he
      rcases List.mem_append.1 he with he | he
      · exact h.leads u hu e he
      · rw [List.mem_singleton.1 he]
        refine ⟨?_, ?_⟩
        · show S.leads _ = true
          rw [sl_cast]
          exact edge_leads (by omega) hN hN250 hh
        · show _ = S.edge _
          rw [sl_cast, edge_slot (by omega) hN hN250]
    · rw [upd_ne _ _ _ q] at he
      exact h.leads u hu e he
  · intro s
    rw [hholds, upd_same]
    have e2 : List.flatMap FS.holds (TS.frames { S.th t with frames := [], ret := regs [S.edge (Bt.slot (f.r 1))] }) = [] := rfl
    rw [e2, List.map_append, List.append_nil]
    simp only [List.map_cons, List.map_nil]
    rw [hse]
    show S.held s = true ↔ _
    constructor
    · intro hs
      by_cases q : s ∈ (had t).map sl ++ [sl (f.r 1)]
      · exact .inr q
      · exact .inl ⟨hs, q⟩
    · rintro (q | q)
      · exact q.1
      · rw [← hholds] at q
        exact (h.held s).2 (.inr ⟨t, ht, List.mem_append.1 q⟩)
  · rw [hholds, upd_same]
    have e2 : List.flatMap FS.holds (TS.frames { S.th t with frames := [], ret := regs [S.edge (Bt.slot (f.r 1))] }) = [] := rfl
    rw [e2]
    simp
  · show (S.mfault || !S.okAt _) = false
    rw [h.mfault, hokn]
    rfl
  · show (S.fault || decide (1 < wrap64 (wrap64 (S.acc + 1) - S.acc))) = false
    rw [h.fault, hw1.1, hw1.2]
    rfl
  · show 0 ≤ wrap64 (S.acc + 1) ∧ wrap64 (S.acc + 1) ≤ b + 1
    rw [hw1.1]
    have := h.acc
    omega
end Go.Proofs.Ytjnikgliecgbdaa
