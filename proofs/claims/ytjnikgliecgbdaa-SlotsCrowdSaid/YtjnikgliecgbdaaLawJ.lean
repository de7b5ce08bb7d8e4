/- Contract of the chapter's example. -/
import Derived.Test.YtjnikgliecgbdaaLawI
namespace Go.Proofs.Ytjnikgliecgbdaa
open Go.RowKit

theorem live_call_len (S : MS) (h : (S.th 0).frames = []) : ((S.call 0 1 []).th 0).frames = [⟨1, 0, regs []⟩] := by simp [MS.call, upd, h]

theorem Way.ret {Inv : Nat → MS → Prop} {L : Lay} {T : Nat} {w : World} {k : Nat} {L' : Lay} {S' : MS} {W : World} (h : Way Inv L T w k L' S' W) {t : Nat} (ht : t < T) : W.cell? ⟨L.s.th t, 0, none⟩ = some (.int .u64 ((S'.th t).ret 0)) := by
  have := (h.rep.cth t (by rw [h.T]; exact ht)).cells.cell 0 (by decide)
  rw [h.moves.s] at this
  exact this

theorem Took.goes {w0 : World} {T N : Nat} {st : Int} {L L' : Lay} {S S' : MS} {W W' : World} (h : Took w0 T N st L S W) (hm : Moves L L' W W') (hr : Rep L' S' W') : Took w0 T N st L' S' W' :=
  ⟨hr, fun b hb => (hm.own b (Nat.lt_of_lt_of_le hb h.below.size)).trans (h.free b hb),
    ⟨hm.kept.os.trans h.below.os, hm.kept.tape.trans h.below.tape, hm.kept.output.trans h.below.output, Nat.le_trans h.below.size hm.kept.size, fun b hb => (hm.kept.block b (Nat.lt_of_lt_of_le hb h.below.size) (h.free b hb)).trans (h.below.block b hb)⟩⟩

set_option maxRecDepth 100000 in
set_option maxHeartbeats 4000000 in
theorem law_lives {Inv : Nat → MS → Prop} (hG : Goods Inv) (hA : Inv 50 ((startMS 1 7 5).call 0 1 [])) (hB : Inv 50 (liveA.call 0 1 [])) (hC : Inv 50 (liveB.call 0 1 [])) (w : World) :
    Calls Try.prog 5 #[] w fun e w' => e = .returned (.bool true) ∧ Below w.heap.size w w' := by
  have HN : Hid (Calls Try.prog 6 #[.agg #[.int .i64 1, .int .i64 7, .int .u64 5]] w fun e w' => Started w 1 7 5 e w') := core_New w 1 7 5 (by decide) (by decide) (by decide) (by decide) (by decide) (by decide)
  have HG := Lib.hid hG
  have HA := Lib.hid hA
  have HB := Lib.hid hB
  have HC := Lib.hid hC
  clear hG hA hB hC
  go_enter Try.func5, Try.ntmps5
  go_wp2_with fail
  refine HN.out.mono ?_
  rintro e w1 ⟨L, rfl, hk⟩
  dsimp only
  have HR := Lib.hid hk.rep
  have CTh : Hid (Calls Try.prog 7 #[.pointer (some ⟨L.s.m, 0, none⟩), .int .i64 0] w1 fun e w' => e = .returned (.pointer (some ⟨L.s.th 0, 0, none⟩)) ∧ w1 = w') := by
    have := core_Thread hk.rep 0
    rw [show thrPtr L (startMS 1 7 5) 0 = .pointer (some ⟨L.s.th 0, 0, none⟩) from thrPtr_at L (startMS 1 7 5) (t := 0) (by decide)] at this
    exact this
  have CA : Hid (Calls Try.prog 21 #[.pointer (some ⟨L.s.m, 0, none⟩), .int .i64 0, .func (.func 13) #[] #[], .int .i64 50, .int .i64 1, .slice none 0 0] w1 fun e w' => DoneAlone Inv L 1 w1 liveA e w') :=
    law_Alone HG.out hk.rep (t := 0) (by decide) (by kernel_rfl) 1 50 (by decide) HA.out liveA_end
  have HK := Lib.hid hk
  clear hk
  go_wp2_with (first | (go_at_call 7; refine CTh.out.mono ?_; rintro e w' ⟨rfl, rfl⟩) | (go_at_call 21; fail))
  refine CA.out.mono ?_
  rintro e w2 ⟨L2, n2, rfl, h2⟩
  dsimp only
  have r2 := h2.ret (t := 0) (by decide)
  rw [liveA_ret] at r2
  have CB : Hid (Calls Try.prog 21 #[.pointer (some ⟨L.s.m, 0, none⟩), .int .i64 0, .func (.func 13) #[] #[], .int .i64 50, .int .i64 1, .slice none 0 0] w2 fun e w' => DoneAlone Inv L2 1 w2 liveB e w') := by
    have := law_Alone HG.out h2.rep (t := 0) (by rw [h2.T]; decide) liveA_end 1 50 (by decide) HB.out liveB_end
    rw [h2.T, h2.moves.s] at this
    exact this
  have H2 := Lib.hid h2
  clear h2
  go_wp2_with (go_at_call 21; fail)
  refine CB.out.mono ?_
  rintro e w3 ⟨L3, n3, rfl, h3⟩
  dsimp only
  have r3 := h3.ret (t := 0) (by decide)
  rw [liveB_ret, H2.out.moves.s] at r3
  have CC : Hid (Calls Try.prog 21 #[.pointer (some ⟨L.s.m, 0, none⟩), .int .i64 0, .func (.func 13) #[] #[], .int .i64 50, .int .i64 1, .slice none 0 0] w3 fun e w' => DoneAlone Inv L3 1 w3 liveC e w') := by
    have := law_Alone HG.out h3.rep (t := 0) (by rw [h3.T]; decide) liveB_end 1 50 (by decide) HC.out liveC_end
    rw [h3.T, h3.moves.s, H2.out.moves.s] at this
    exact this
  have H3 := Lib.hid h3
  clear h3 r2
  go_wp2_with (go_at_call 21; fail)
  refine CC.out.mono ?_
  rintro e w4 ⟨L4, n4, rfl, h4⟩
  dsimp only
  have r4 := h4.ret (t := 0) (by decide)
  rw [liveC_ret, H3.out.moves.s, H2.out.moves.s] at r4
  have H4 := Lib.hid h4
  clear h4 r3
  go_wp2_with fail
  go_ret
  exact ⟨rfl, (((HK.out.goes H2.out.moves H2.out.rep).goes H3.out.moves H3.out.rep).goes H4.out.moves H4.out.rep).below⟩
end Go.Proofs.Ytjnikgliecgbdaa
