/- All threads go on alone, one behind the other. -/
import Derived.Test.YtjnikgliecgbdaaLawF
namespace Go.Proofs.Ytjnikgliecgbdaa
open Go.RowKit

def MS.runT (S : MS) (t : Nat) : Nat → MS
  | 0 => S
  | k + 1 => if (S.th t).frames = [] then S else (S.slotsStep t).runT t k

theorem runT_idle {S : MS} {t : Nat} (h : (S.th t).frames = []) (k : Nat) : S.runT t k = S := by
  cases k with
  | zero => rfl
  | succ k => rw [MS.runT, if_pos h]

theorem slots_other (S : MS) (t u : Nat) (hu : u ≠ t) : (S.slotsStep t).th u = S.th u := by
  unfold MS.slotsStep
  split
  · rfl
  · unfold MS.stepped MS.slotsBit MS.takeBit MS.giveBit
    dsimp only
    (repeat' split) <;> simp only [MS.at1, MS.top, MS.back, MS.cas, MS.store, MS.take, MS.drop] <;> (repeat' split) <;> simp [upd, hu]
theorem slotsStep_T (S : MS) (t : Nat) : (S.slotsStep t).T = S.T := by
  unfold MS.slotsStep
  split
  · rfl
  · exact slots_T _ _ _

/-- What holds of a machine while its threads go on, for so many steps more. -/
structure Goods (Inv : Nat → MS → Prop) : Prop where
  step : ∀ (k : Nat) (S : MS) (t : Nat), Inv (k + 1) S → t < S.T → Inv k (S.slotsStep t)
  cnt : ∀ (k : Nat) (S : MS), Inv k S → S.cnt ≤ 4000
  len : ∀ (k : Nat) (S : MS) (t : Nat), Inv k S → t < S.T → (S.th t).frames.length ≤ 1
  ends : ∀ (k : Nat) (S : MS) (t : Nat), Inv (k + 10) S → t < S.T → ((S.runT t 10).th t).frames = []
  mono : ∀ (k j : Nat) (S : MS), Inv k S → j ≤ k → Inv j S

/-- A machine on its way, from one that was. -/
structure Way (Inv : Nat → MS → Prop) (L : Lay) (T : Nat) (w : World) (k : Nat) (L' : Lay) (S' : MS) (W : World) : Prop where
  rep : Rep L' S' W
  moves : Moves L L' w W
  inv : Inv k S'
  T : S'.T = T

theorem Way.less {Inv : Nat → MS → Prop} {L : Lay} {T : Nat} {w : World} {k j : Nat} {L' : Lay} {S' : MS} {W : World} (h : Way Inv L T w k L' S' W) (hG : Goods Inv) (hj : j ≤ k) : Way Inv L T w j L' S' W := ⟨h.rep, h.moves, hG.mono k j S' h.inv hj, h.T⟩
theorem Way.thread {Inv : Nat → MS → Prop} {L : Lay} {T : Nat} {w : World} {k : Nat} {L' : Lay} {S' : MS} {W : World} (h : Way Inv L T w k L' S' W) {t : Nat} (ht : t < T) :
    Calls Try.prog 7 #[.pointer (some ⟨L.s.m, 0, none⟩), .int .i64 t] W fun e w' => e = .returned (.pointer (some ⟨L.s.th t, 0, none⟩)) ∧ W = w' := by
  have := core_Thread h.rep t
  rw [thrPtr_at L' S' (by rw [h.T]; exact ht), h.moves.s] at this
  exact this
theorem Way.depth {Inv : Nat → MS → Prop} {L : Lay} {T : Nat} {w : World} {k : Nat} {L' : Lay} {S' : MS} {W : World} (h : Way Inv L T w k L' S' W) {t : Nat} (ht : t < T) :
    Calls Try.prog 8 #[.pointer (some ⟨L.s.th t, 0, none⟩)] W fun e w' => e = .returned (.int .i64 (S'.th t).frames.length) ∧ W = w' := by
  have := frame_Depth (h.rep.cth t (by rw [h.T]; exact ht))
  rw [h.moves.s] at this
  exact this
theorem Way.step {Inv : Nat → MS → Prop} (hG : Goods Inv) {L : Lay} {T : Nat} {w : World} {k : Nat} {L' : Lay} {S' : MS} {W : World} (h : Way Inv L T w (k + 1) L' S' W) {t : Nat} (ht : t < T) (hb : (S'.th t).frames ≠ []) :
    Calls Try.prog 12 #[.pointer (some ⟨L.s.m, 0, none⟩), .int .i64 t, .func (.func 13) #[] #[]] W fun e w' => ∃ L2 b, e = .returned (.bool b) ∧ Way Inv L T w k L2 (S'.slotsStep t) w' := by
  have ht' : t < S'.T := by rw [h.T]; exact ht
  cases hf : (S'.th t).frames with
  | nil => exact absurd hf hb
  | cons f fs =>
    have hl := hG.len _ S' t h.inv ht'
    rw [hf] at hl
    have := law_Step h.rep ht' hf (by simp at hl; simp [hl]) (hG.cnt _ S' h.inv)
    rw [h.moves.s] at this
    refine this.mono ?_
    rintro e w' ⟨L2, rfl, hr, hm⟩
    exact ⟨L2, _, rfl, hr, h.moves.trans hm, hG.step _ S' t h.inv ht', by rw [slotsStep_T]; exact h.T⟩

set_option maxRecDepth 100000 in
set_option maxHeartbeats 2000000 in
theorem law_Ends {Inv : Nat → MS → Prop} (hG : Goods Inv) {L : Lay} {S : MS} {w : World} (h : Rep L S w) (hi : Inv 60 S) :
    Calls Try.prog 19 #[.pointer (some ⟨L.s.m, 0, none⟩), .func (.func 13) #[] #[], .int .i64 10] w fun e w' => ∃ L' S', e = .returned (.bool true) ∧ Way Inv L S.T w 0 L' S' w' ∧ ∀ t, t < S.T → (S'.th t).frames = [] := by
  have hT := h.T6
  have HG := Lib.hid hG
  obtain ⟨T, hTT⟩ : ∃ T, T = S.T := ⟨_, rfl⟩
  have H0 := Lib.hid (show Way Inv L T w (10 * (6 - 0)) L S w from ⟨h, Moves.of (Kept.refl _ _), hi, hTT.symm⟩)
  rw [← hTT] at hT ⊢
  clear h hG hi hTT
  go_enter Try.func19, Try.ntmps19
  go_wp2_with fail
  go_loopw [7] (fun vt W => ∃ (t : Nat) (L' : Lay) (S' : MS), vt = .int .i64 t ∧ t ≤ T ∧ Hid (Way Inv L T w (10 * (6 - t)) L' S' W) ∧ Hid (∀ u, u < t → (S'.th u).frames = [])) (fun vt _ => T - (intOf vt).toNat)
  case atStart => exact ⟨0, L, S, rfl, Nat.zero_le _, H0, Lib.hid fun u hu => absurd hu (by omega)⟩
  case round =>
    obtain ⟨t, L1, S1, rfl, htT, H1, HI⟩ := hrel
    clear H0
    have CT : Hid (Calls Try.prog 44 #[.pointer (some ⟨L.s.m, 0, none⟩)] wr fun e w' => e = .returned (.int .i64 T) ∧ wr = w') := by
      have := core_Threads H1.out.rep
      rw [H1.out.T, H1.out.moves.s] at this
      exact this
    by_cases ht : t < T
    · have htI : (t : Int) < T := by omega
      have et : IntKind.i64.wrap ((t : Int) + 1) = t + 1 := IntWalk.i64_in _ (by omega)
      go_wp2_with fail
      refine CT.out.mono ?_
      rintro e w1 ⟨rfl, rfl⟩
      go_wp2_with fail
      go_loopw [8] (fun vi W => ∃ (i : Nat) (L' : Lay) (S' : MS), vi = .int .i64 i ∧ i ≤ 10 ∧ Hid (Way Inv L T w (10 * (6 - t) - i) L' S' W) ∧ Hid (∀ u, u < t → (S'.th u).frames = []) ∧ Hid (((S'.runT t (10 - i)).th t).frames = [])) (fun vi _ => 10 - (intOf vi).toNat)
      case atStart => exact ⟨0, L1, S1, rfl, Nat.zero_le _, H1, HI, Lib.hid (HG.out.ends (10 * (6 - t) - 10) S1 t (by rw [show 10 * (6 - t) - 10 + 10 = 10 * (6 - t) by omega]; exact H1.out.inv) (by rw [H1.out.T]; exact ht))⟩
      case round =>
        clear H1 HI CT
        obtain ⟨i, L2, S2, rfl, hi, H2, HI2, HE⟩ := hrel
        have CTh := Lib.hid (H2.out.thread ht)
        have CD := Lib.hid (H2.out.depth ht)
        by_cases hf : (S2.th t).frames = []
        · rw [hf] at CD
          have HF := Lib.hid hf
          clear hf
          by_cases hi10 : i < 10
          · have hiI : (i : Int) < 10 := by omega
            go_wp2_with (first | (go_at_call 7; refine CTh.out.mono ?_; rintro e w' ⟨rfl, rfl⟩) | (go_at_call 8; refine CD.out.mono ?_; rintro e w' ⟨rfl, rfl⟩))
            go_roundw
            case rel => exact ⟨t + 1, L2, S2, by go_num, by omega, Lib.hid (H2.out.less HG.out (by omega)), Lib.hid fun u hu => if e : u = t then e ▸ HF.out else HI2.out u (by omega)⟩
            case measure => simp [intOf]; omega
          · have hiI : ¬ (i : Int) < 10 := by omega
            go_wp2_with (first | (go_at_call 7; refine CTh.out.mono ?_; rintro e w' ⟨rfl, rfl⟩) | (go_at_call 8; refine CD.out.mono ?_; rintro e w' ⟨rfl, rfl⟩))
            go_roundw
            case rel => exact ⟨t + 1, L2, S2, by go_num, by omega, Lib.hid (H2.out.less HG.out (by omega)), Lib.hid fun u hu => if e : u = t then e ▸ HF.out else HI2.out u (by omega)⟩
            case measure => simp [intOf]; omega
        · have hlen : 0 < (S2.th t).frames.length := List.length_pos_iff.2 hf
          have hlenI : (0 : Int) < (S2.th t).frames.length := by omega
          have hi10 : i < 10 := by
            refine Nat.lt_of_not_le fun hq => hf ?_
            have := HE.out
            rw [show 10 - i = 0 by omega] at this
            exact this
          have CS := Lib.hid ((show Way Inv L T w ((10 * (6 - t) - (i + 1)) + 1) L2 S2 wr by rw [show (10 * (6 - t) - (i + 1)) + 1 = 10 * (6 - t) - i by omega]; exact H2.out).step HG.out ht hf)
          have hiI : (i : Int) < 10 := by omega
          have ei : IntKind.i64.wrap ((i : Int) + 1) = i + 1 := IntWalk.i64_in _ (by omega)
          have HNext : Hid ((((S2.slotsStep t).runT t (10 - (i + 1))).th t).frames = []) := by
            have := HE.out
            rw [show 10 - i = (10 - (i + 1)) + 1 by omega, MS.runT, if_neg hf] at this
            exact this
          have HO : Hid (∀ u, u < t → ((S2.slotsStep t).th u).frames = []) := fun u hu => by
            rw [slots_other S2 t u (by omega)]
            exact HI2.out u hu
          clear hf hlen
          generalize ((S2.th t).frames.length : Int) = dl at *
          go_wp2_with (first | (go_at_call 7; refine CTh.out.mono ?_; rintro e w' ⟨rfl, rfl⟩) | (go_at_call 8; refine CD.out.mono ?_; rintro e w' ⟨rfl, rfl⟩) | (go_at_call 12; refine CS.out.mono ?_; rintro e w5 ⟨L5, b5, rfl, h5⟩; have H5 := Lib.hid h5; clear h5))
          go_roundw
          case rel => exact ⟨i + 1, L5, S2.slotsStep t, by go_num, by omega, H5, HO, HNext⟩
          case measure => simp [intOf]; omega
    · have htI : ¬ (t : Int) < T := by omega
      go_wp2_with fail
      refine CT.out.mono ?_
      rintro e w1 ⟨rfl, rfl⟩
      go_wp2_with fail
      go_ret
      exact ⟨L1, S1, rfl, H1.out.less HG.out (Nat.zero_le _), fun u hu => HI.out u (by omega)⟩
end Go.Proofs.Ytjnikgliecgbdaa
