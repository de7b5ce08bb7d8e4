/- The invariant at first. -/
import Derived.Test.YtjnikgliecgbdaaPlainB
namespace Go.Proofs.Ytjnikgliecgbdaa

theorem start_eq {T N : Nat} {st : Int} (hN : 7 ≤ N) : startMS T N st = { bareMS T N st with held := fun s => decide (1 ≤ s ∧ s ≤ 5), cnt := 5 } := by
  have h1 : (bareMS T N st).takeOk 1 = true := by
    have q : (1 : Int) < (N : Int) + 1 := by omega
    simp [MS.takeOk, MS.there, bareMS, q]
  have e1 : (bareMS T N st).take 1 = { bareMS T N st with held := fun s => decide (1 ≤ s ∧ s ≤ 1), cnt := 1 } := by
    unfold MS.take
    rw [if_pos h1, if_pos h1, if_pos h1]
    simp only [bareMS, MS.mk.injEq, true_and, and_true]
    funext s
    show (if s = 1 then true else false) = decide (1 ≤ s ∧ s ≤ 1)
    by_cases q : s = 1
    · simp [q]
    · rw [if_neg q]
      symm
      rw [decide_eq_false_iff_not]
      omega
  have step : ∀ k : Nat, k ≤ 4 → MS.take { bareMS T N st with held := fun s => decide (1 ≤ s ∧ s ≤ k), cnt := k } ((k : Int) + 1) = { bareMS T N st with held := fun s => decide (1 ≤ s ∧ s ≤ k + 1), cnt := k + 1 } := by
    intro k hk
    have h2 : MS.takeOk { bareMS T N st with held := fun s => decide (1 ≤ s ∧ s ≤ k), cnt := k } ((k : Int) + 1) = true := by
      have : ((k : Int) + 1).toNat = k + 1 := by omega
      simp only [MS.takeOk, MS.there, bareMS, this]
      simp
      omega
    unfold MS.take
    rw [if_pos h2, if_pos h2, if_pos h2]
    simp only [bareMS, MS.mk.injEq, true_and, and_true]
    funext s
    simp only [upd]
    have : ((k : Int) + 1).toNat = k + 1 := by omega
    rw [this]
    by_cases q : s = k + 1
    · simp [q]
    · rw [if_neg q]
      congr 1
      apply propext
      omega
  unfold startMS
  rw [e1]
  rw [show (2 : Int) = ((1 : Nat) : Int) + 1 from rfl, step 1 (by omega), show (3 : Int) = ((2 : Nat) : Int) + 1 from rfl, step 2 (by omega), show (4 : Int) = ((3 : Nat) : Int) + 1 from rfl, step 3 (by omega), show (5 : Int) = ((4 : Nat) : Int) + 1 from rfl, step 4 (by omega)]

theorem treeW_off (T s f : Nat) (hs : 1 ≤ s) (hf : f = 0 ∨ f = 1) : treeW T (nodeN T s f) = 0 := by
  unfold treeW putNode headW upd
  dsimp only
  repeat (rw [if_neg (by unfold nodeN; omega)])
theorem linkW_two (T N : Nat) : linkW T N 2 = 6 := by
  unfold linkW
  rw [if_neg (by unfold nodeN; omega)]
  unfold treeW putNode headW upd
  dsimp only
  repeat (rw [if_neg (by unfold nodeN; omega)])
  rfl
theorem linkW_link (T N s : Nat) (h1 : 6 ≤ s) : linkW T N (nodeN T s 0) = if s < N then ((s + 1 : Nat) : Int) else 0 := by
  unfold linkW
  have e : (nodeN T s 0 - nodeN T 1 0) / 7 = s - 1 := by unfold nodeN; omega
  by_cases h : s < N
  · rw [if_pos h, if_pos (by unfold nodeN; omega)]
    congr 1
    rw [e]
    omega
  · rw [if_neg h, if_neg (by unfold nodeN; omega), treeW_off T s 0 (by omega) (.inl rfl)]
theorem linkW_gen (T N s : Nat) (h1 : 1 ≤ s) : linkW T N (nodeN T s 1) = 0 := by
  unfold linkW
  rw [if_neg (by unfold nodeN; omega), treeW_off T s 1 h1 (.inr rfl)]
theorem upd_nn {g : Nat → Int} {i : Nat} {v : Int} (hg : ∀ a, 0 ≤ g a) (hv : 0 ≤ v) : ∀ a, 0 ≤ upd g i v a := fun a => by
  unfold upd
  split
  · exact hv
  · exact hg a
theorem linkW_nn (T N : Nat) (a : Nat) : 0 ≤ linkW T N a := by
  unfold linkW
  split
  · omega
  · have h0 : ∀ a, 0 ≤ headW a := upd_nn (upd_nn (upd_nn (fun _ => Int.le_refl 0) (by decide)) (by decide)) (by decide)
    have hp : ∀ (g : Nat → Int) (s : Nat) (x y z : Int), (∀ a, 0 ≤ g a) → 0 ≤ x → 0 ≤ y → 0 ≤ z → ∀ a, 0 ≤ putNode T g s x y z a := fun g s x y z hg hx hy hz => upd_nn (upd_nn (upd_nn hg hx) hy) hz
    exact hp _ _ _ _ _ (hp _ _ _ _ _ (hp _ _ _ _ _ (hp _ _ _ _ _ (hp _ _ _ _ _ h0 (by decide) (by decide) (by decide)) (by decide) (by decide) (by decide)) (by decide) (by decide) (by decide)) (by decide) (by decide) (by decide)) (by decide) (by decide) (by decide) a

theorem linked_first (T N : Nat) : ∀ n s : Nat, 6 ≤ s → s + n = N → Linked T (linkW T N) s ((List.range (n + 1)).map (· + s)) := by
  intro n
  induction n with
  | zero =>
    intro s h6 hN
    refine ⟨by simp, by simp; omega, 0, ?_, rfl⟩
    simp only [Nat.zero_add]
    rw [linkW_link T N s h6, if_neg (by omega)]
    rfl
  | succ n ih =>
    intro s h6 hN
    have := ih (s + 1) (by omega) (by omega)
    rw [List.range_succ_eq_map, List.map_cons, List.map_map]
    refine ⟨by simp, by omega, s + 1, ?_, ?_⟩
    · simp only [Nat.zero_add]
      rw [linkW_link T N s h6, if_pos (by omega)]
    · have e : ((fun x => x + s) ∘ Nat.succ) = fun x => x + (s + 1) := by funext x; simp; omega
      rw [e]
      exact this

theorem start_inv {T N : Nat} {st : Int} {b : Int} (hT1 : 1 ≤ T) (hT6 : T ≤ 6) (hN : 7 ≤ N) (hN2 : N ≤ 250) (hb : 0 ≤ b) : InvL b (startMS T N st) ((List.range (N - 5)).map (· + 6)) (fun _ => []) := by
  rw [start_eq hN]
  have hhd : ((List.range (N - 5)).map (· + 6)).headD 0 = 6 := by
    rw [show N - 5 = (N - 6) + 1 by omega, List.range_succ_eq_map]
    simp
  refine { fit := ⟨hT1, hT6, hN, hN2, rfl⟩, head := ?_, links := ?_, genw := ?_, nonneg := ?_, len := ?_, each := ?_, leads := ?_, held := ?_, cnt := ?_, slips := rfl, mfault := rfl, fault := rfl, acc := ⟨Int.le_refl 0, hb⟩ }
  · refine ⟨0, Int.le_refl 0, hb, ?_, ?_⟩
    · rw [hhd]
      show linkW T N 2 = _
      rw [linkW_two]
      rfl
    · intro t _ f hf
      exact absurd hf (by simp [bareMS, newTS])
  · rw [hhd]
    have := linked_first T N (N - 6) 6 (by omega) (by omega)
    rw [show N - 6 + 1 = N - 5 by omega] at this
    exact this
  · intro s h1 h2
    exact ⟨linkW_gen T N s h1, Int.le_refl 0, hb⟩
  · intro a _
    exact linkW_nn T N a
  · intro t _
    simp [bareMS, newTS]
  · have : ((List.range T).flatMap fun t => (([] : List Int).map sl ++ (newTS).mine)) = [] := by
      simp [TS.mine, newTS]
    show (_ ++ (List.range T).flatMap fun t => (([] : List Int).map sl ++ (newTS).mine)).Perm _
    rw [this, List.append_nil]
    exact List.Perm.refl _
  · intro t _ e he
    exact absurd he (by simp)
  · intro s
    simp [bareMS, newTS]
  · have : ((List.range T).flatMap fun _ => (([] : List Int).map sl ++ (newTS).frames.flatMap FS.holds)) = [] := by
      simp [newTS]
    show 5 = 5 + ((List.range T).flatMap fun _ => (([] : List Int).map sl ++ (newTS).frames.flatMap FS.holds)).length
    rw [this]
    rfl
end Go.Proofs.Ytjnikgliecgbdaa
