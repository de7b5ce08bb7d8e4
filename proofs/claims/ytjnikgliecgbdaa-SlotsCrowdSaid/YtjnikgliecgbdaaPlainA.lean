/- The plain law's first steps: where the words of a slot lie. -/
import Derived.Test.YtjnikgliecgbdaaLawJ
namespace Go.Proofs.Ytjnikgliecgbdaa

/-- What never changes of a machine. -/
structure Fit (S : MS) : Prop where
  T1 : 1 ≤ S.T
  T6 : S.T ≤ 6
  N7 : 7 ≤ S.N
  N250 : S.N ≤ 250
  nw : S.nw = 3 + 8 * S.T + 7 * S.N

theorem nodeAt_eq (S : MS) {s f : Nat} (h1 : 1 ≤ s) (h2 : s ≤ S.N) (hf : f ≤ 6) : S.nodeAt (s : Int) (f : Int) = ((nodeN S.T s f : Nat) : Int) := by
  unfold MS.nodeAt nodeN
  rw [if_pos (by omega)]
  omega
theorem okAt_node {S : MS} (h : Fit S) {s f : Nat} (h1 : 1 ≤ s) (h2 : s ≤ S.N) (hf : f ≤ 6) : S.okAt ((nodeN S.T s f : Nat) : Int) = true := by
  have := h.nw
  unfold MS.okAt nodeN
  simp only [decide_eq_true_eq]
  omega
theorem okAt_two {S : MS} (h : Fit S) : S.okAt 2 = true := by
  have := h.nw
  unfold MS.okAt
  simp only [decide_eq_true_eq]
  omega
theorem load_node {S : MS} (h : Fit S) {s f : Nat} (h1 : 1 ≤ s) (h2 : s ≤ S.N) (hf : f ≤ 6) : S.load (S.nodeAt (s : Int) (f : Int)) = S.words (nodeN S.T s f) := by
  rw [nodeAt_eq S h1 h2 hf]
  unfold MS.load
  rw [if_pos (okAt_node h h1 h2 hf)]
  simp
theorem load_two {S : MS} (h : Fit S) : S.load 2 = S.words 2 := by
  unfold MS.load
  rw [if_pos (okAt_two h)]
  rfl
theorem casOk_two {S : MS} (h : Fit S) (old : Int) : S.casOk 2 old = (S.words 2 == old) := by
  unfold MS.casOk
  rw [okAt_two h]
  rfl
theorem node_two (T : Nat) {s f : Nat} : nodeN T s f ≠ 2 := by unfold nodeN; omega
theorem node_inj {T s s' f f' : Nat} (h1 : 1 ≤ s) (h1' : 1 ≤ s') (hf : f ≤ 6) (hf' : f' ≤ 6) (h : nodeN T s f = nodeN T s' f') : s = s' ∧ f = f' := by
  unfold nodeN at h
  omega

/-- The free list from a slot on, in the words. -/
def Linked (T : Nat) (words : Nat → Int) : Nat → List Nat → Prop
  | h, [] => h = 0
  | h, s :: l => h = s ∧ 1 ≤ s ∧ ∃ n : Nat, words (nodeN T s 0) = n ∧ Linked T words n l

theorem Linked.congr {T : Nat} {words words' : Nat → Int} : ∀ {l : List Nat} {h : Nat}, Linked T words h l → (∀ s, s ∈ l → words' (nodeN T s 0) = words (nodeN T s 0)) → Linked T words' h l
  | [], _, h, _ => h
  | s :: l, _, ⟨h1, h2, n, h3, h4⟩, hw => ⟨h1, h2, n, (hw s (by simp)).trans h3, Linked.congr h4 fun x hx => hw x (by simp [hx])⟩

/-- What the answer's own function reads of such words. -/
theorem chainFrom_linked {T N : Nat} {words : Nat → Int} : ∀ {l : List Nat} {h fuel : Nat} {acc : List Nat}, Linked T words h l → (∀ s, s ∈ l → s ≤ N) → N ≤ 4095 → l.length < fuel → acc.length + l.length ≤ N + 1 →
    chainFrom N (fun s => words (nodeN T s 0)) fuel acc h = (acc ++ l, true)
  | [], h, fuel + 1, acc, hl, _, _, _, _ => by
    have : h = 0 := hl
    rw [chainFrom, if_pos this]
    simp
  | s :: l, h, fuel + 1, acc, ⟨h1, h2, n, h3, h4⟩, hs, hN, hf, ha => by
    subst h1
    have hsN := hs h (by simp)
    have hn : n ≤ 4095 := by
      cases l with
      | nil => have : n = 0 := h4; omega
      | cons x l =>
        obtain ⟨e, _⟩ := h4
        have := hs x (by simp)
        omega
    simp at hf ha
    rw [chainFrom, if_neg (by omega), if_neg (by omega)]
    simp only [h3]
    rw [if_neg (by omega)]
    have := chainFrom_linked (fuel := fuel) (acc := acc ++ [h]) h4 (fun x hx => hs x (by simp [hx])) hN (by omega) (by simp; omega)
    simpa using this
  | _, _, 0, _, _, _, _, hf, _ => absurd hf (by omega)
end Go.Proofs.Ytjnikgliecgbdaa
