/- What is whose: no slot is twice; a step that turns one thread and what is free. -/
import Derived.Test.YtjnikgliecgbdaaPlainH
namespace Go.Proofs.Ytjnikgliecgbdaa
open Go.RowKit

theorem flatMap_same {α : Type} {F G : Nat → List α} : ∀ {l : List Nat}, (∀ u, u ∈ l → F u = G u) → l.flatMap F = l.flatMap G
  | [], _ => rfl
  | x :: l, h => by
    rw [List.flatMap_cons, List.flatMap_cons, h x (by simp), flatMap_same (l := l) fun u hu => h u (by simp [hu])]

def restOf {α : Type} (n t : Nat) (F : Nat → List α) : List α := ((List.range n).filter fun u => u != t).flatMap F

theorem restOf_same {α : Type} {n t : Nat} {F G : Nat → List α} (h : ∀ u, u ≠ t → F u = G u) : restOf n t F = restOf n t G :=
  flatMap_same fun u hu => h u (by have := (List.mem_filter.1 hu).2; simpa using this)
theorem mem_restOf {α : Type} {n t : Nat} {F : Nat → List α} {s : α} : s ∈ restOf n t F ↔ ∃ u, u < n ∧ u ≠ t ∧ s ∈ F u := by
  unfold restOf
  rw [List.mem_flatMap]
  constructor
  · rintro ⟨u, hu, hs⟩
    have := List.mem_filter.1 hu
    exact ⟨u, by simpa using this.1, by simpa using this.2, hs⟩
  · rintro ⟨u, h1, h2, hs⟩
    exact ⟨u, List.mem_filter.2 ⟨by simpa using h1, by simpa using h2⟩, hs⟩

theorem flatMap_split {α : Type} (F : Nat → List α) (t : Nat) : ∀ n : Nat, t < n → ((List.range n).flatMap F).Perm (F t ++ restOf n t F) := by
  intro n
  induction n with
  | zero => intro h; exact absurd h (by omega)
  | succ n ih =>
    intro h
    unfold restOf
    rw [List.range_succ, List.flatMap_append, List.filter_append, List.flatMap_append]
    by_cases e : t = n
    · subst e
      have h1 : (List.range t).filter (fun u => u != t) = List.range t := List.filter_eq_self.2 fun u hu => by
        have := List.mem_range.1 hu
        simp
        omega
      rw [h1]
      simp
      exact List.perm_append_comm
    · have h2 : [n].filter (fun u => u != t) = [n] := by simp; omega
      rw [h2, ← List.append_assoc]
      exact (ih (by omega)).append_right _

def ownM (had : Nat → List Int) (S : MS) (t : Nat) : List Nat := (had t).map sl ++ (S.th t).mine
def ownH (had : Nat → List Int) (S : MS) (t : Nat) : List Nat := (had t).map sl ++ (S.th t).frames.flatMap FS.holds

theorem holds_mine {f : FS} {s : Nat} (h : s ∈ f.holds) : s ∈ f.mine := by
  unfold FS.holds at h
  unfold FS.mine
  split at h
  · exact (if_pos ‹_› : (if f.fn = 1 then _ else [sl (f.r 0)]) = _) ▸ h
  · rw [if_neg ‹_›]
    split at h
    · exact h
    · exact absurd h (by simp)
theorem ownH_M {had : Nat → List Int} {S : MS} {t s : Nat} (h : s ∈ ownH had S t) : s ∈ ownM had S t := by
  unfold ownH at h
  unfold ownM TS.mine
  rcases List.mem_append.1 h with h | h
  · exact List.mem_append_left _ h
  · obtain ⟨f, hf, hs⟩ := List.mem_flatMap.1 h
    exact List.mem_append_right _ (List.mem_flatMap.2 ⟨f, hf, holds_mine hs⟩)

theorem all_nodup (n : Nat) : ((List.range n).map (· + 6)).Nodup := by
  unfold List.Nodup
  rw [List.pairwise_map]
  exact (List.nodup_range (n := n)).imp fun h => by omega

section
variable {b : Int} {S : MS} {L : List Nat} {had : Nat → List Int}

theorem InvL.part (h : InvL b S L had) {t : Nat} (ht : t < S.T) : (L ++ (ownM had S t ++ restOf S.T t (ownM had S))).Perm ((List.range (S.N - 5)).map (· + 6)) :=
  ((flatMap_split (ownM had S) t S.T ht).symm.append_left L).trans h.each
theorem InvL.nodup (h : InvL b S L had) {t : Nat} (ht : t < S.T) : (L ++ (ownM had S t ++ restOf S.T t (ownM had S))).Nodup := (h.part ht).nodup_iff.2 (all_nodup _)
theorem InvL.free (h : InvL b S L had) {t : Nat} (ht : t < S.T) {s : Nat} (hs : s ∈ L) : s ∉ ownM had S t := fun hq =>
  (List.nodup_append.1 (h.nodup ht)).2.2 s hs s (List.mem_append_left _ hq) rfl
theorem InvL.apart (h : InvL b S L had) {t u : Nat} (ht : t < S.T) (hu : u < S.T) (hn : u ≠ t) {s : Nat} (hs : s ∈ ownM had S t) : s ∉ ownM had S u := fun hq =>
  (List.nodup_append.1 (List.nodup_append.1 (h.nodup ht)).2.1).2.2 s hs s (mem_restOf.2 ⟨u, hu, hn, hq⟩) rfl
theorem InvL.ownNodup (h : InvL b S L had) {t : Nat} (ht : t < S.T) : (ownM had S t).Nodup := (List.nodup_append.1 (List.nodup_append.1 (h.nodup ht)).2.1).1
theorem InvL.freeNodup (h : InvL b S L had) : L.Nodup := (List.nodup_append.1 (h.nodup (Nat.lt_of_lt_of_le (Nat.zero_lt_one) h.fit.T1))).1
theorem InvL.ownIn (h : InvL b S L had) {t : Nat} (ht : t < S.T) {s : Nat} (hs : s ∈ ownM had S t) : 6 ≤ s ∧ s ≤ S.N := by
  have := (h.part ht).subset (List.mem_append_right _ (List.mem_append_left _ hs))
  obtain ⟨i, hi, rfl⟩ := List.mem_map.1 this
  have := List.mem_range.1 hi
  have := h.fit.N7
  omega

/-- One thread is turned, and what it and the list have. -/
theorem InvL.go (h : InvL b S L had) {S' : MS} {L' : List Nat} {had' : Nat → List Int} {t : Nat} (ht : t < S.T) {x : TS} (eT : S'.T = S.T) (eN : S'.N = S.N) (enw : S'.nw = S.nw)
    (hth : S'.th = upd S.th t x) (hhad : ∀ u, u ≠ t → had' u = had u)
    (hhead : ∀ c : Int, 0 ≤ c → c ≤ b → S.words 2 = ((L.headD 0 : Nat) : Int) + 4096 * c → ∃ c' : Int, 0 ≤ c' ∧ c' ≤ b + 1 ∧ S'.words 2 = ((L'.headD 0 : Nat) : Int) + 4096 * c' ∧ (∀ f ∈ x.frames, FOk S' c' f) ∧
      ∀ u, u < S.T → u ≠ t → ∀ f ∈ (S.th u).frames, FOk S c f → FOk S' c' f)
    (hlinks : Linked S.T S'.words (L'.headD 0) L')
    (hgenw : ∀ s, 1 ≤ s → s ≤ S.N → S'.words (nodeN S.T s 1) = S'.gens s ∧ 0 ≤ S'.gens s ∧ S'.gens s ≤ b + 1)
    (hnn : ∀ a, a < S.nw → 0 ≤ S'.words a)
    (hlen : x.frames.length ≤ 1)
    (hperm : (L' ++ ((had' t).map sl ++ x.mine)).Perm (L ++ ownM had S t))
    (hleads : ∀ u, u < S.T → ∀ e ∈ had' u, S'.leads e = true ∧ e = S'.edge (Bt.slot e))
    (hheld : ∀ s, S'.held s = true ↔ (S.held s = true ∧ s ∉ ownH had S t) ∨ s ∈ (had' t).map sl ++ x.frames.flatMap FS.holds)
    (hcnt : S'.cnt + (ownH had S t).length = S.cnt + ((had' t).map sl ++ x.frames.flatMap FS.holds).length)
    (hs : S'.slips = 0) (hm : S'.mfault = false) (hf : S'.fault = false) (ha : 0 ≤ S'.acc ∧ S'.acc ≤ b + 1) : InvL (b + 1) S' L' had' := by
  have oM : ∀ u, u ≠ t → ownM had' S' u = ownM had S u := fun u hu => by unfold ownM; rw [hhad u hu, hth, upd_ne _ _ _ hu]
  have oH : ∀ u, u ≠ t → ownH had' S' u = ownH had S u := fun u hu => by unfold ownH; rw [hhad u hu, hth, upd_ne _ _ _ hu]
  have oMt : ownM had' S' t = (had' t).map sl ++ x.mine := by unfold ownM; rw [hth, upd_same]
  have oHt : ownH had' S' t = (had' t).map sl ++ x.frames.flatMap FS.holds := by unfold ownH; rw [hth, upd_same]
  refine ⟨⟨by rw [eT]; exact h.fit.T1, by rw [eT]; exact h.fit.T6, by rw [eN]; exact h.fit.N7, by rw [eN]; exact h.fit.N250, by rw [eT, eN, enw]; exact h.fit.nw⟩, ?_, by rw [eT]; exact hlinks, by rw [eT, eN]; exact hgenw, by rw [enw]; exact hnn, ?_, ?_, by rw [eT]; exact hleads, ?_, ?_, hs, hm, hf, ha⟩
  · obtain ⟨c, c0, cb, hw2, hfs⟩ := h.head
    obtain ⟨c', c0', cb', hw2', hx, ho⟩ := hhead c c0 cb hw2
    refine ⟨c', c0', cb', hw2', fun u hu f hfu => ?_⟩
    rw [eT] at hu
    rw [hth] at hfu
    by_cases e : u = t
    · subst e
      rw [upd_same] at hfu
      exact hx f hfu
    · rw [upd_ne _ _ _ e] at hfu
      exact ho u hu e f hfu (hfs u hu f hfu)
  · intro u hu
    rw [eT] at hu
    rw [hth]
    by_cases e : u = t
    · subst e; rw [upd_same]; exact hlen
    · rw [upd_ne _ _ _ e]; exact h.len u hu
  · show (L' ++ (List.range S'.T).flatMap (ownM had' S')).Perm ((List.range (S'.N - 5)).map (· + 6))
    rw [eT, eN]
    refine ((flatMap_split (ownM had' S') t S.T ht).append_left L').trans ?_
    rw [restOf_same oM, oMt, ← List.append_assoc]
    refine (hperm.append_right _).trans ?_
    rw [List.append_assoc]
    exact h.part ht
  · intro s
    rw [hheld s, h.held s, eT]
    constructor
    · rintro (⟨h1 | ⟨u, hu, h1⟩, h2⟩ | h1)
      · exact .inl h1
      · by_cases e : u = t
        · subst e
          exact absurd (List.mem_append.2 h1) h2
        · refine .inr ⟨u, hu, ?_⟩
          have := oH u e
          exact List.mem_append.1 (show s ∈ ownH had' S' u by rw [this]; exact List.mem_append.2 h1)
      · exact .inr ⟨t, ht, List.mem_append.1 (show s ∈ ownH had' S' t by rw [oHt]; exact h1)⟩
    · rintro (h1 | ⟨u, hu, h1⟩)
      · refine .inl ⟨.inl h1, fun hq => ?_⟩
        have := h.ownIn ht (ownH_M hq)
        omega
      · have h1 : s ∈ ownH had' S' u := List.mem_append.2 h1
        by_cases e : u = t
        · subst e
          rw [oHt] at h1
          exact .inr h1
        · rw [oH u e] at h1
          exact .inl ⟨.inr ⟨u, hu, List.mem_append.1 h1⟩, fun hq => h.apart ht hu e (ownH_M hq) (ownH_M h1)⟩
  · show S'.cnt = 5 + ((List.range S'.T).flatMap (ownH had' S')).length
    have h1 := (flatMap_split (ownH had' S') t S.T ht).length_eq
    have h2 := (flatMap_split (ownH had S) t S.T ht).length_eq
    rw [restOf_same oH, oHt] at h1
    have h3 : S.cnt = 5 + ((List.range S.T).flatMap (ownH had S)).length := h.cnt
    rw [eT]
    simp only [List.length_append] at *
    omega
end
end Go.Proofs.Ytjnikgliecgbdaa
