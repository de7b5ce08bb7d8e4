/- The plain law's invariant. -/
import Derived.Test.YtjnikgliecgbdaaPlainA
namespace Go.Proofs.Ytjnikgliecgbdaa

def sl (x : Int) : Nat := (Bt.slot x).toNat

/-- The slot that a routine has of its own: neither held by the law's caller, nor free. -/
def FS.mine (f : FS) : List Nat := if f.fn = 1 then (if f.pc = 3 then [sl (f.r 1)] else []) else [sl (f.r 0)]
def TS.mine (x : TS) : List Nat := x.frames.flatMap FS.mine

/-- A routine is in place: k: how often the head changed. -/
structure FOk (S : MS) (c : Int) (f : FS) : Prop where
  kind : f.fn = 1 ∨ f.fn = 2
  pc : f.pc = 0 ∨ f.pc = 1 ∨ f.pc = 2 ∨ f.pc = 3
  old : (f.pc = 1 ∨ f.pc = 2) → 0 ≤ f.r 1 ∧ Bt.chg (f.r 1) ≤ c ∧ (f.r 1 = S.words 2 ∨ Bt.chg (f.r 1) < c) ∧ sl (f.r 1) ≤ S.N
  take2 : f.fn = 1 → f.pc = 2 → 1 ≤ sl (f.r 1) ∧ sl (f.r 1) ≤ S.N ∧ (S.words 2 = f.r 1 → f.r 2 = S.words (nodeN S.T (sl (f.r 1)) 0))
  give0 : f.fn = 2 → f.pc = 0 → S.leads (f.r 0) = true
  give2 : f.fn = 2 → f.pc = 2 → S.words (nodeN S.T (sl (f.r 0)) 0) = Bt.slot (f.r 1)

/-- What a routine holds, of the guard. -/
def FS.holds (f : FS) : List Nat := if f.fn = 1 then (if f.pc = 3 then [sl (f.r 1)] else []) else (if f.pc = 0 then [sl (f.r 0)] else [])

/-- The machine is in order: L: what is free; had: what each thread's caller has; b: how far the counters may have gone. -/
structure InvL (b : Int) (S : MS) (L : List Nat) (had : Nat → List Int) : Prop where
  fit : Fit S
  head : ∃ c : Int, 0 ≤ c ∧ c ≤ b ∧ S.words 2 = ((L.headD 0 : Nat) : Int) + 4096 * c ∧ ∀ t, t < S.T → ∀ f ∈ (S.th t).frames, FOk S c f
  links : Linked S.T S.words (L.headD 0) L
  genw : ∀ s, 1 ≤ s → s ≤ S.N → S.words (nodeN S.T s 1) = S.gens s ∧ 0 ≤ S.gens s ∧ S.gens s ≤ b
  nonneg : ∀ a, a < S.nw → 0 ≤ S.words a
  len : ∀ t, t < S.T → (S.th t).frames.length ≤ 1
  each : (L ++ (List.range S.T).flatMap fun t => (had t).map sl ++ (S.th t).mine).Perm ((List.range (S.N - 5)).map (· + 6))
  leads : ∀ t, t < S.T → ∀ e ∈ had t, S.leads e = true ∧ e = S.edge (Bt.slot e)
  held : ∀ s, S.held s = true ↔ (1 ≤ s ∧ s ≤ 5) ∨ ∃ t, t < S.T ∧ (s ∈ (had t).map sl ∨ s ∈ (S.th t).frames.flatMap FS.holds)
  cnt : S.cnt = 5 + ((List.range S.T).flatMap fun t => (had t).map sl ++ (S.th t).frames.flatMap FS.holds).length
  slips : S.slips = 0
  mfault : S.mfault = false
  fault : S.fault = false
  acc : 0 ≤ S.acc ∧ S.acc ≤ b

/-- So many steps may still come. -/
def Inv (had : Nat → List Int) (k : Nat) (S : MS) : Prop := ∃ L, InvL (100000 - k) S L had

theorem Inv.rest {had : Nat → List Int} {k : Nat} {S : MS} (h : Inv had k S) (hk : k ≤ 5000) (hid : ∀ t, t < S.T → (S.th t).frames = []) :
    ∃ L, S.chain = (L, true) ∧ InvL (100000 - k) S L had := by
  obtain ⟨L, h⟩ := h
  refine ⟨L, ?_, h⟩
  obtain ⟨c, hc0, hcb, hw, _⟩ := h.head
  have hmem : ∀ s, s ∈ L → 6 ≤ s ∧ s ≤ S.N := fun s hs => by
    have := h.each.subset (List.mem_append_left _ hs)
    obtain ⟨i, hi, rfl⟩ := List.mem_map.1 this
    have := List.mem_range.1 hi
    have := h.fit.N7
    omega
  have hlen : L.length ≤ S.N - 5 := by
    have := h.each.length_eq
    simp at this
    omega
  have hN := h.fit.N250
  have hN7 := h.fit.N7
  have hd : L.headD 0 ≤ 250 := by
    cases L with
    | nil => simp
    | cons s l => have := hmem s (by simp); simp; omega
  unfold MS.chain chainOf
  rw [show (S.words 2 % 4096).toNat = L.headD 0 by rw [hw]; omega]
  have := chainFrom_linked (N := S.N) (fuel := S.N + 2) (acc := []) h.links (fun s hs => (hmem s hs).2) (by omega) (by omega) (by simp; omega)
  simpa using this
end Go.Proofs.Ytjnikgliecgbdaa
