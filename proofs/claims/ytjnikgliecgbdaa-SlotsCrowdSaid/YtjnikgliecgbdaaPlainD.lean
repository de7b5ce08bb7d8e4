/- The invariant, step by step. -/
import Derived.Test.YtjnikgliecgbdaaPlainC
namespace Go.Proofs.Ytjnikgliecgbdaa

theorem there_same {S S' : MS} (hN : S'.N = S.N) (s : Int) : S'.there s = S.there s := by
  unfold MS.there
  rw [hN]
theorem edge_same {S S' : MS} (hN : S'.N = S.N) (hg : S'.gens = S.gens) : S'.edge = S.edge := by
  funext s
  unfold MS.edge
  rw [there_same hN, hg]
theorem leads_same {S S' : MS} (hN : S'.N = S.N) (hg : S'.gens = S.gens) (hh : S'.held = S.held) : S'.leads = S.leads := by
  funext e
  unfold MS.leads
  rw [there_same hN, edge_same hN hg, hh]

theorem FOk.same {S S' : MS} {c : Int} {f : FS} (h : FOk S c f) (hT : S'.T = S.T) (hN : S'.N = S.N) (hw : S'.words = S.words) (hg : S'.gens = S.gens) (hh : S'.held = S.held) : FOk S' c f := by
  have hl : S'.leads = S.leads := leads_same hN hg hh
  exact ⟨h.kind, h.pc, by rw [hw, hN]; exact h.old, by rw [hw, hN, hT]; exact h.take2, by rw [hl]; exact h.give0, by rw [hw, hT]; exact h.give2⟩

theorem flatMap_upd {α β : Type} (g : α → List β) (th : Nat → α) (t : Nat) (x : α) (hx : g x = g (th t)) (k : Nat → List β) : ∀ n : Nat, ((List.range n).flatMap fun u => k u ++ g (upd th t x u)) = (List.range n).flatMap fun u => k u ++ g (th u) := by
  intro n
  congr 1
  funext u
  by_cases e : u = t
  · subst e; rw [upd_same, hx]
  · rw [upd_ne _ _ _ e]

/-- One frame is turned, and an access counted; nothing else. -/
theorem InvL.turn {b : Int} {S S' : MS} {L : List Nat} {had : Nat → List Int} (h : InvL b S L had) {t : Nat} (ht : t < S.T) {x : TS} (eT : S'.T = S.T) (eN : S'.N = S.N) (enw : S'.nw = S.nw)
    (hw : S'.words = S.words) (hg : S'.gens = S.gens) (hh : S'.held = S.held) (hc : S'.cnt = S.cnt) (hs : S'.slips = 0) (hm : S'.mfault = false) (hf : S'.fault = false) (ha : 0 ≤ S'.acc ∧ S'.acc ≤ b + 1)
    (hth : S'.th = upd S.th t x) (hlen : x.frames.length ≤ 1) (hmine : x.mine = (S.th t).mine) (hhold : x.frames.flatMap FS.holds = (S.th t).frames.flatMap FS.holds)
    (hok : ∀ c : Int, S.words 2 = ((L.headD 0 : Nat) : Int) + 4096 * c → 0 ≤ c → c ≤ b → ∀ f ∈ x.frames, FOk S c f) : InvL (b + 1) S' L had := by
  have hl : S'.leads = S.leads := leads_same eN hg hh
  have he : S'.edge = S.edge := edge_same eN hg
  refine ⟨⟨by rw [eT]; exact h.fit.T1, by rw [eT]; exact h.fit.T6, by rw [eN]; exact h.fit.N7, by rw [eN]; exact h.fit.N250, by rw [eT, eN, enw]; exact h.fit.nw⟩, ?_, by rw [eT, hw]; exact h.links, ?_, by rw [enw, hw]; exact h.nonneg, ?_, ?_, ?_, ?_, ?_, hs, hm, hf, ha⟩
  · obtain ⟨c, c0, cb, hw2, hfs⟩ := h.head
    refine ⟨c, c0, by omega, by rw [hw]; exact hw2, fun u hu f hfu => ?_⟩
    rw [hth] at hfu
    rw [eT] at hu
    by_cases e : u = t
    · subst e
      rw [upd_same] at hfu
      exact (hok c hw2 c0 cb f hfu).same eT eN hw hg hh
    · rw [upd_ne _ _ _ e] at hfu
      exact (hfs u hu f hfu).same eT eN hw hg hh
  · intro s h1 h2
    rw [eN] at h2
    rw [eT, hw, hg]
    have := h.genw s h1 h2
    exact ⟨this.1, this.2.1, by omega⟩
  · intro u hu
    rw [eT] at hu
    rw [hth]
    by_cases e : u = t
    · subst e; rw [upd_same]; exact hlen
    · rw [upd_ne _ _ _ e]; exact h.len u hu
  · rw [eT, eN, hth, flatMap_upd TS.mine S.th t x hmine]
    exact h.each
  · intro u hu e hu2
    rw [eT] at hu
    rw [hl, he]
    exact h.leads u hu e hu2
  · intro s
    rw [hh, h.held s, eT, hth]
    have key : ∀ u, (upd S.th t x u).frames.flatMap FS.holds = (S.th u).frames.flatMap FS.holds := fun u => by
      by_cases e : u = t
      · subst e; rw [upd_same, hhold]
      · rw [upd_ne _ _ _ e]
    simp only [key]
  · rw [hc, h.cnt, eT, hth, flatMap_upd (fun y : TS => y.frames.flatMap FS.holds) S.th t x hhold]
end Go.Proofs.Ytjnikgliecgbdaa
