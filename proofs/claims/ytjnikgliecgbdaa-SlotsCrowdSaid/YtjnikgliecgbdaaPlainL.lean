/- The invariant through the bits of Give. -/
import Derived.Test.YtjnikgliecgbdaaPlainK
namespace Go.Proofs.Ytjnikgliecgbdaa
open Go.RowKit

theorem leads_gen {S : MS} {e : Int} (h : S.leads e = true) (hg0 : 0 ≤ S.gens (sl e)) (hg1 : S.gens (sl e) ≤ 1000000) :
    1 ≤ sl e ∧ sl e ≤ S.N ∧ S.held (sl e) = true ∧ Bt.gen e = S.gens (sl e) := by
  unfold MS.leads at h
  rw [sl_cast] at h
  simp only [Bool.and_eq_true, beq_iff_eq, Int.toNat_natCast] at h
  have ht := h.1.1
  unfold MS.there at ht
  simp only [Bool.and_eq_true, decide_eq_true_eq] at ht
  have h1 : 1 ≤ sl e := by omega
  have h2 : sl e ≤ S.N := by omega
  refine ⟨h1, h2, h.1.2, ?_⟩
  have hn := h.2
  rw [edge_at h1 h2] at hn
  have hs := @sl_cast e
  unfold Bt.node Bt.p62 Bt.p50 at hn
  unfold Bt.slot at hs
  unfold Bt.gen Bt.p50
  omega

theorem leads_other {S S' : MS} {e : Int} {s : Nat} (hN : S'.N = S.N) (hg : ∀ a, a ≠ s → S'.gens a = S.gens a) (hh : ∀ a, a ≠ s → S'.held a = S.held a) (hs : sl e ≠ s) : S'.leads e = S.leads e ∧ S'.edge (Bt.slot e) = S.edge (Bt.slot e) := by
  have he : S'.edge (Bt.slot e) = S.edge (Bt.slot e) := by
    unfold MS.edge
    rw [there_same hN]
    rw [sl_cast, Int.toNat_natCast, hg _ hs]
  refine ⟨?_, he⟩
  unfold MS.leads
  rw [there_same hN, he]
  rw [sl_cast, Int.toNat_natCast, hh _ hs]

theorem give0_eq {S : MS} {t : Nat} {f : FS} (hf : (S.th t).frames = [f]) (h1 : f.fn = 2) (hp : f.pc = 0) (hl : S.leads (f.r 0) = true) (hok : S.okAt (S.nodeAt (Bt.slot (f.r 0)) 1) = true) :
    S.slotsStep t = { S with words := upd S.words (S.nodeAt (Bt.slot (f.r 0)) 1).toNat (Bt.gen (4096 * (IntKind.u64.wrap (Bt.gen (f.r 0) + 1) % Bt.p50))), acc := wrap64 (S.acc + 1), mfault := S.mfault || !S.okAt (S.nodeAt (Bt.slot (f.r 0)) 1), held := upd S.held (sl (f.r 0)) false, cnt := S.cnt - 1, gens := upd S.gens (sl (f.r 0)) (IntKind.u64.wrap (S.gens (sl (f.r 0)) + 1)), th := upd S.th t { S.th t with frames := [{ f with pc := 3 }] }, steps := wrap64 (S.steps + 1), fault := S.fault || decide (1 < wrap64 (wrap64 (S.acc + 1) - S.acc)) } := by
  have e : S.slotsStep t = S.stepped (((S.store (S.nodeAt (Bt.slot (f.r 0)) 1) (Bt.gen (4096 * (IntKind.u64.wrap (Bt.gen (f.r 0) + 1) % Bt.p50)))).drop (f.r 0)).top t { f with pc := 3 }) := by
    simp [MS.slotsStep, hf, MS.slotsBit, h1, MS.giveBit, hp]
  rw [e]
  have c2 : (S.store (S.nodeAt (Bt.slot (f.r 0)) 1) (Bt.gen (4096 * (IntKind.u64.wrap (Bt.gen (f.r 0) + 1) % Bt.p50)))).leads (f.r 0) = true := hl
  unfold MS.stepped MS.drop
  rw [if_pos c2, if_pos c2, if_pos c2, if_pos c2]
  unfold MS.store
  rw [if_pos hok]
  unfold MS.top
  dsimp only [MS.at1]
  rw [hf]
  rfl

theorem give_mine {f : FS} (h1 : f.fn = 2) : f.mine = [sl (f.r 0)] := by
  unfold FS.mine
  rw [if_neg (by rw [h1]; decide)]
theorem mine_give {S : MS} {u : Nat} {f : FS} {had : Nat → List Int} (hf : f ∈ (S.th u).frames) (h1 : f.fn = 2) : sl (f.r 0) ∈ ownM had S u :=
  List.mem_append_right _ (List.mem_flatMap.2 ⟨f, hf, by rw [give_mine h1]; simp⟩)

/-- A slot that a thread has of its own isn't one that its caller has. -/
theorem InvL.hadNot {b : Int} {S : MS} {L : List Nat} {had : Nat → List Int} (h : InvL b S L had) {t u : Nat} (ht : t < S.T) (hu : u < S.T) {s : Nat} (hs : s ∈ (S.th t).mine) {e : Int} (he : e ∈ had u) : sl e ≠ s := by
  intro q
  have h1 : s ∈ ownM had S t := List.mem_append_right _ hs
  have h2 : s ∈ (had u).map sl := q ▸ List.mem_map_of_mem he
  by_cases e : u = t
  · subst e
    exact (List.nodup_append.1 (h.ownNodup hu)).2.2 s h2 s hs rfl
  · exact h.apart ht hu e h1 (List.mem_append_left _ h2)

theorem gen_next {S : MS} {e : Int} {b : Int} (hg : Bt.gen e = S.gens (sl e)) (h0 : 0 ≤ S.gens (sl e)) (h1 : S.gens (sl e) ≤ b) (hb : b ≤ 1000000) :
    Bt.gen (4096 * (IntKind.u64.wrap (Bt.gen e + 1) % Bt.p50)) = S.gens (sl e) + 1 ∧ IntKind.u64.wrap (S.gens (sl e) + 1) = S.gens (sl e) + 1 := by
  rw [hg, Bt.wrap_u64]
  unfold Bt.gen Bt.p50
  omega

theorem step_give0 {b : Int} {S : MS} {L : List Nat} {had : Nat → List Int} (h : InvL b S L had) (hb : b ≤ 1000000) {t : Nat} (ht : t < S.T) {f : FS} (hf : (S.th t).frames = [f]) (h1 : f.fn = 2) (hp : f.pc = 0) :
    InvL (b + 1) (S.slotsStep t) L had := by
  obtain ⟨c, c0, cb, hw2, hfs⟩ := h.head
  have hF := hfs t ht f (by rw [hf]; simp)
  have hlead := hF.give0 h1 hp
  have hN250 := h.fit.N250
  have hin := h.ownIn ht (mine_give (had := had) (show f ∈ (S.th t).frames by rw [hf]; simp) h1)
  have hgw := h.genw (sl (f.r 0)) (by omega) hin.2
  obtain ⟨_, _, hheld, hgen⟩ := leads_gen hlead hgw.2.1 (by omega)
  have hgn := gen_next hgen hgw.2.1 hgw.2.2 hb
  have hw1 := wrap_one h.acc.1 h.acc.2 hb
  have hnode : S.nodeAt (Bt.slot (f.r 0)) 1 = ((nodeN S.T (sl (f.r 0)) 1 : Nat) : Int) := by
    rw [sl_cast]
    exact nodeAt_eq S (f := 1) (by omega) hin.2 (by omega)
  have hok : S.okAt (S.nodeAt (Bt.slot (f.r 0)) 1) = true := by rw [hnode]; exact okAt_node h.fit (by omega) hin.2 (by omega)
  rw [give0_eq hf h1 hp hlead hok, hgn.1, hgn.2, hnode, Int.toNat_natCast]
  obtain ⟨s, hs⟩ : ∃ s, s = sl (f.r 0) := ⟨_, rfl⟩
  rw [← hs] at hin hgw hheld hgen ⊢
  have hmine0 : (S.th t).mine = [s] := by simp [TS.mine, hf, FS.mine, h1, hs]
  have hmine : ownM had S t = (had t).map sl ++ [s] := by unfold ownM; rw [hmine0]
  have hholds : ownH had S t = (had t).map sl ++ [s] := by simp [ownH, hf, FS.holds, h1, hp, hs]
  have hnd := h.ownNodup ht
  rw [hmine] at hnd
  have hnot : s ∉ (had t).map sl := fun q => (List.nodup_append.1 hnd).2.2 s q s (by simp) rfl
  have eM : TS.mine { S.th t with frames := [{ f with pc := 3 }] } = [s] := by simp [TS.mine, FS.mine, h1, hs]
  have eH : List.flatMap FS.holds (TS.frames { S.th t with frames := [{ f with pc := 3 }] }) = [] := by simp [FS.holds, h1]
  refine h.go ht (x := { S.th t with frames := [{ f with pc := 3 }] }) rfl rfl rfl rfl (fun _ _ => rfl) ?_ ?_ ?_ ?_ ?_ ?_ ?_ ?_ ?_ h.slips ?_ ?_ ?_
  · intro c1 d0 db hd2
    refine ⟨c1, d0, by omega, ?_, ?_, ?_⟩
    · show upd S.words _ _ 2 = _
      rw [upd_ne _ _ _ (Ne.symm (node_two _))]
      exact hd2
    · intro g hg
      simp only [List.mem_singleton] at hg
      subst hg
      exact ⟨.inr h1, .inr (.inr (.inr rfl)), fun q => absurd q (by show ¬ ((3 : Int) = 1 ∨ (3 : Int) = 2); decide), fun _ q => absurd q (by show ¬ ((3 : Int) = 2); decide), fun _ q => absurd q (by show ¬ ((3 : Int) = 0); decide), fun _ q => absurd q (by show ¬ ((3 : Int) = 2); decide)⟩
    · intro u hu hn g hg hG
      have w2 : upd S.words (nodeN S.T s 1) (S.gens s + 1) 2 = S.words 2 := upd_ne _ _ _ (Ne.symm (node_two _))
      refine ⟨hG.kind, hG.pc, ?_, ?_, ?_, ?_⟩
      · show _ → _ ∧ _ ∧ (_ = upd S.words (nodeN S.T s 1) (S.gens s + 1) 2 ∨ _) ∧ _
        rw [w2]
        exact hG.old
      · intro q1 q2
        have := hG.take2 q1 q2
        refine ⟨this.1, this.2.1, ?_⟩
        show upd S.words (nodeN S.T s 1) (S.gens s + 1) 2 = g.r 1 → g.r 2 = upd S.words (nodeN S.T s 1) (S.gens s + 1) (nodeN S.T (sl (g.r 1)) 0)
        rw [w2, upd_ne _ _ _ (fun q => absurd (node_inj (by omega) (by omega) (by omega) (by omega) q).2 (by omega))]
        exact this.2.2
      · intro q1 q2
        refine (leads_other (S := S) (s := s) ?_ ?_ ?_ ?_).1.trans (hG.give0 q1 q2)
        · rfl
        · exact fun a ha => upd_ne _ _ _ ha
        · exact fun a ha => upd_ne _ _ _ ha
        intro q
        exact h.apart ht hu hn (s := s) (by rw [hmine]; simp) (by have := mine_give (had := had) hg q1; rw [q] at this; exact this)
      · intro q1 q2
        have hin2 := h.ownIn hu (mine_give (had := had) hg q1)
        show upd S.words (nodeN S.T s 1) (S.gens s + 1) (nodeN S.T (sl (g.r 0)) 0) = _
        rw [upd_ne _ _ _ (fun q => absurd (node_inj (by omega) (by omega) (by omega) (by omega) q).2 (by omega))]
        exact hG.give2 q1 q2
  · show Linked S.T (upd S.words (nodeN S.T s 1) (S.gens s + 1)) (L.headD 0) L
    exact h.links.congr fun a ha => upd_ne _ _ _ (fun q => absurd (node_inj (by have := h.mem ha; omega) (by omega) (by omega) (by omega) q).2 (by omega))
  · intro a q1 q2
    show upd S.words (nodeN S.T s 1) (S.gens s + 1) (nodeN S.T a 1) = upd S.gens s (S.gens s + 1) a ∧ 0 ≤ upd S.gens s (S.gens s + 1) a ∧ upd S.gens s (S.gens s + 1) a ≤ b + 1
    by_cases e : a = s
    · subst e
      rw [upd_same, upd_same]
      exact ⟨rfl, by omega, by omega⟩
    · rw [upd_ne S.gens _ _ e, upd_ne _ _ _ (fun q => e (node_inj (by omega) (by omega) (by omega) (by omega) q).1)]
      have := h.genw a q1 q2
      exact ⟨this.1, this.2.1, Int.le_trans this.2.2 (by omega)⟩
  · intro a ha
    show 0 ≤ upd S.words (nodeN S.T s 1) (S.gens s + 1) a
    by_cases e : a = nodeN S.T s 1
    · rw [e, upd_same]; omega
    · rw [upd_ne _ _ _ e]; exact h.nonneg a ha
  · simp
  · rw [hmine, eM]
  · intro u hu e he
    have hne := h.hadNot ht hu (s := s) (by rw [hmine0]; simp) he
    have := leads_other (S := S) (S' := { S with words := upd S.words (nodeN S.T s 1) (S.gens s + 1), acc := wrap64 (S.acc + 1), mfault := S.mfault || !S.okAt ((nodeN S.T s 1 : Nat) : Int), held := upd S.held s false, cnt := S.cnt - 1, gens := upd S.gens s (S.gens s + 1), th := upd S.th t { S.th t with frames := [{ f with pc := 3 }] }, steps := wrap64 (S.steps + 1), fault := S.fault || decide (1 < wrap64 (wrap64 (S.acc + 1) - S.acc)) }) (s := s) rfl (fun a ha => upd_ne _ _ _ ha) (fun a ha => upd_ne _ _ _ ha) hne
    have k := h.leads u hu e he
    exact ⟨this.1.trans k.1, by rw [this.2]; exact k.2⟩
  · intro a
    rw [hholds, eH, List.append_nil]
    show upd S.held s false a = true ↔ _
    by_cases e : a = s
    · subst e
      rw [upd_same]
      simp [hnot]
    · rw [upd_ne _ _ _ e]
      constructor
      · intro hq
        by_cases q : a ∈ (had t).map sl
        · exact .inr q
        · refine .inl ⟨hq, fun r => ?_⟩
          rcases List.mem_append.1 r with r | r
          · exact q r
          · exact e (List.mem_singleton.1 r)
      · rintro (q | q)
        · exact q.1
        · exact (h.held a).2 (.inr ⟨t, ht, .inl q⟩)
  · rw [hholds, eH]
    show S.cnt - 1 + _ = S.cnt + _
    have hc := h.cnt
    simp
    omega
  · show (S.mfault || !S.okAt _) = false
    rw [hs, ← hnode, h.mfault, hok]
    rfl
  · show (S.fault || decide (1 < wrap64 (wrap64 (S.acc + 1) - S.acc))) = false
    rw [h.fault, hw1.1, hw1.2]
    rfl
  · show 0 ≤ wrap64 (S.acc + 1) ∧ wrap64 (S.acc + 1) ≤ b + 1
    rw [hw1.1]
    have := h.acc
    omega
end Go.Proofs.Ytjnikgliecgbdaa
