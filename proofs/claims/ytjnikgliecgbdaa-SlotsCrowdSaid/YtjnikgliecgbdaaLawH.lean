/- A thread does a routine alone, to its end. -/
import Derived.Test.YtjnikgliecgbdaaLawG
namespace Go.Proofs.Ytjnikgliecgbdaa
open Go.RowKit

/-- A routine that was done alone. -/
def DoneAlone (Inv : Nat → MS → Prop) (L : Lay) (T : Nat) (w : World) (Sf : MS) (e : Ending) (w' : World) : Prop := ∃ L' n, e = .returned (.tuple #[.int .i64 n, .bool true]) ∧ Way Inv L T w 0 L' Sf w'

set_option maxRecDepth 100000 in
set_option maxHeartbeats 2000000 in
theorem law_Alone {Inv : Nat → MS → Prop} (hG : Goods Inv) {L : Lay} {S : MS} {w : World} (h : Rep L S w) {t : Nat} (ht : t < S.T) (hidle : (S.th t).frames = []) (fn : Int) (most : Nat) (hm : most ≤ 5000) (hi : Inv most (S.call t fn []))
    (hE : ((((S.call t fn []).runT t most)).th t).frames = []) :
    Calls Try.prog 21 #[.pointer (some ⟨L.s.m, 0, none⟩), .int .i64 t, .func (.func 13) #[] #[], .int .i64 most, .int .i64 fn, .slice none 0 0] w fun e w' => DoneAlone Inv L S.T w ((S.call t fn []).runT t most) e w' := by
  have hT := h.T6
  obtain ⟨T, hTT⟩ : ∃ T, T = S.T := ⟨_, rfl⟩
  have CTh : Hid (Calls Try.prog 7 #[.pointer (some ⟨L.s.m, 0, none⟩), .int .i64 t] w fun e w' => e = .returned (.pointer (some ⟨L.s.th t, 0, none⟩)) ∧ w = w') := by
    have := core_Thread h t
    rw [thrPtr_at L S ht] at this
    exact this
  have CD : Hid (Calls Try.prog 8 #[.pointer (some ⟨L.s.th t, 0, none⟩)] w fun e w' => e = .returned (.int .i64 0) ∧ w = w') := by
    have := frame_Depth (h.cth t ht)
    rw [hidle] at this
    exact this
  have CC := Lib.hid (frame_Call h ht (by rw [hidle]; simp) fn [] (by simp) none 0 (fun hq => absurd hq (by simp)))
  obtain ⟨S0, hS0⟩ : ∃ S0, S0 = S.call t fn [] := ⟨_, rfl⟩
  have hbusy : (S0.th t).frames ≠ [] := by rw [hS0]; simp [MS.call, upd]
  rw [← hS0] at hi hE CC ⊢
  obtain ⟨Sf, hSf⟩ : ∃ Sf, Sf = S0.runT t most := ⟨_, rfl⟩
  rw [← hSf] at hE ⊢
  have HRun := Lib.hid hSf.symm
  have hT0 : S0.T = T := by rw [hS0, hTT]; rfl
  rw [← hTT] at ht hT ⊢
  have HG := Lib.hid hG
  have HE := Lib.hid hE
  have HI := Lib.hid hi
  have HB := Lib.hid hbusy
  have HT0 := Lib.hid hT0
  simp only [List.length_nil] at CC
  clear h hidle hi hE hSf hS0 hTT hG hbusy hT0
  go_enter Try.func21, Try.ntmps21
  go_wp2_with (first | (go_at_call 7; refine CTh.out.mono ?_; rintro e w' ⟨rfl, rfl⟩) | (go_at_call 8; refine CD.out.mono ?_; rintro e w' ⟨rfl, rfl⟩) | (go_at_call 9; refine CC.out.mono ?_; rintro e w5 ⟨L5, rfl, hr5, hm5⟩; have H5 := Lib.hid (show Way Inv L T w (most - 0) L5 S0 w5 from ⟨hr5, hm5, HI.out, HT0.out⟩); clear hr5 hm5))
  clear CC CD CTh
  go_loopw [16] (fun vi W => ∃ (i : Nat) (L2 : Lay) (S2 : MS), vi = .int .i64 i ∧ i ≤ most ∧ Hid (Way Inv L T w (most - i) L2 S2 W) ∧ Hid ((S2.th t).frames ≠ []) ∧ Hid (S2.runT t (most - i) = Sf)) (fun vi _ => most - (intOf vi).toNat)
  case atStart => exact ⟨0, L5, S0, rfl, Nat.zero_le _, H5, HB, HRun⟩
  case round =>
    clear H5 HB HRun HI HT0
    obtain ⟨i, L2, S2, rfl, him, H2, HB, HR⟩ := hrel
    have hi' : i < most := by
      refine Nat.lt_of_not_le fun hq => HB.out ?_
      have := HR.out
      rw [show most - i = 0 by omega] at this
      rw [show S2 = Sf from this]
      exact HE.out
    have hiI : (i : Int) < most := by omega
    have ei : IntKind.i64.wrap ((i : Int) + 1) = i + 1 := IntWalk.i64_in _ (by omega)
    have CS := Lib.hid ((show Way Inv L T w ((most - (i + 1)) + 1) L2 S2 wr by rw [show (most - (i + 1)) + 1 = most - i by omega]; exact H2.out).step HG.out ht HB.out)
    have HN : Hid ((S2.slotsStep t).runT t (most - (i + 1)) = Sf) := by
      have := HR.out
      rw [show most - i = (most - (i + 1)) + 1 by omega, MS.runT, if_neg HB.out] at this
      exact this
    go_wp2_with fail
    refine CS.out.mono ?_
    rintro e w6 ⟨L6, b6, rfl, h6⟩
    have H6 := Lib.hid h6
    have CD := Lib.hid (h6.depth ht)
    clear h6
    by_cases hf : ((S2.slotsStep t).th t).frames = []
    · rw [hf] at CD
      have HQ : Hid (S2.slotsStep t = Sf) := by
        have := HN.out
        rw [runT_idle hf] at this
        exact this
      clear hf
      go_wp2_with (first | (go_at_call 8; refine CD.out.mono ?_; rintro e w' ⟨rfl, rfl⟩))
      go_ret2
      exact ⟨L6, (i : Int) + 1, rfl, by rw [← HQ.out]; exact H6.out.less HG.out (Nat.zero_le _)⟩
    · have HB2 := Lib.hid hf
      have hlen : 0 < ((S2.slotsStep t).th t).frames.length := List.length_pos_iff.2 hf
      have hlenI : ¬ (((S2.slotsStep t).th t).frames.length : Int) ≤ 0 := by omega
      clear hf hlen
      generalize (((S2.slotsStep t).th t).frames.length : Int) = dl at *
      go_wp2_with (first | (go_at_call 8; refine CD.out.mono ?_; rintro e w' ⟨rfl, rfl⟩))
      go_roundw
      case rel => exact ⟨i + 1, L6, S2.slotsStep t, by go_num, by omega, H6, HB2, HN⟩
      case measure => simp [intOf]; omega
end Go.Proofs.Ytjnikgliecgbdaa
