/- Contracts of slots.Do and of a machine's step by it. -/
import Derived.Test.YtjnikgliecgbdaaSlotsE
namespace Go.Proofs.Ytjnikgliecgbdaa
open Go.RowKit

def MS.slotsBit (S : MS) (t : Nat) (f : FS) : MS := if f.fn = 1 then S.takeBit t f else if f.fn = 2 then S.giveBit t f else S

theorem take_any {L : Lay} {S : MS} {w : World} {t b : Nat} {bs : List Nat} {f : FS} {fs : List FS} (h : Bit L S w t b bs f fs) :
    Calls Try.prog 35 #[.agg #[.pointer (some ⟨L.s.m, 0, none⟩), .pointer (some ⟨L.s.th t, 0, none⟩), .pointer (some ⟨b, 0, none⟩)]] w fun e w' => Goes L (S.takeBit t f) (.tuple #[]) w e w' := by
  by_cases h0 : f.pc = 0
  · exact take_0 h h0
  · by_cases h1 : f.pc = 1
    · by_cases hz : Bt.slot (f.r 1) = 0
      · exact take_1z h h1 hz
      · exact take_1 h h1 hz
    · by_cases h2 : f.pc = 2
      · exact take_2 h h2
      · exact take_3 h h0 h1 h2
theorem give_any {L : Lay} {S : MS} {w : World} {t b : Nat} {bs : List Nat} {f : FS} {fs : List FS} (h : Bit L S w t b bs f fs) :
    Calls Try.prog 36 #[.agg #[.pointer (some ⟨L.s.m, 0, none⟩), .pointer (some ⟨L.s.th t, 0, none⟩), .pointer (some ⟨b, 0, none⟩)]] w fun e w' => Goes L (S.giveBit t f) (.tuple #[]) w e w' := by
  by_cases h0 : f.pc = 0
  · exact give_0 h h0
  · by_cases h1 : f.pc = 1
    · exact give_1 h h1
    · by_cases h3 : f.pc = 3
      · exact give_3 h h3
      · exact give_2 h h0 h1 h3

theorem Bit.congr {L : Lay} {S : MS} {w w' : World} {t b : Nat} {bs : List Nat} {f : FS} {fs : List FS} (h : Bit L S w t b bs f fs) (hr : Rep L S w') : Bit L S w' t b bs f fs := ⟨hr, h.ht, h.hb, h.hf, h.hd, h.hc⟩

set_option maxRecDepth 100000 in
set_option maxHeartbeats 1600000 in
theorem slots_Do {L : Lay} {S : MS} {w : World} {t b : Nat} {bs : List Nat} {f : FS} {fs : List FS} (h : Bit L S w t b bs f fs) :
    Calls Try.prog 13 #[.pointer (some ⟨L.s.m, 0, none⟩), .int .i64 t] w fun e w' => Goes L (S.slotsBit t f) (.tuple #[]) w e w' := by
  have HX := Lib.hid h
  have HP := Lib.hid (thrPtr_at L S h.ht)
  have HQ := Lib.hid (show topPtr L t = .pointer (some ⟨b, 0, none⟩) by simp [topPtr, h.hb])
  by_cases h1 : f.fn = 1
  · have HE := Lib.hid (show S.slotsBit t f = S.takeBit t f by simp [MS.slotsBit, h1])
    have e1 : (f.fn == 1) = true := by simpa using h1
    clear h h1
    go_enter Try.func13, Try.ntmps13
    go_wp2_with fail
    refine (core_Thread HX.out.rep _).mono ?_
    rw [HP.out]
    rintro e w' ⟨rfl, rfl⟩
    go_wp2_with fail
    refine (frame_Top (HX.out.rep.cth t HX.out.ht) (by rw [HX.out.hf]; have := HX.out.hd; simp; omega)).mono ?_
    rw [HQ.out]
    rintro e w1 ⟨rfl, n, hn⟩
    have h1 := HX.out.congr (w' := w1) (by rw [hn]; exact HX.out.rep.drewN n)
    have K1 := Lib.hid (show Kept L w w1 by rw [hn]; exact (Kept.refl _ _).drewN n)
    have H1 := Lib.hid h1
    have fc := (h1.rep.topCells h1.ht h1.hb h1.hf).1.cell 0 (by decide)
    have hbz := (h1.rep.topCells h1.ht h1.hb h1.hf).1.lt
    simp only [frCell] at fc
    clear h1 hn
    go_wp2_with fail
    refine (core_Thread H1.out.rep _).mono ?_
    rw [HP.out]
    rintro e w' ⟨rfl, rfl⟩
    go_wp2_with (go_at_call 35; refine (take_any (H1.out.congr (H1.out.rep.alloc _))).mono ?_; rintro e w2 ⟨L', rfl, hr, hk⟩; have HR := Lib.hid hr; have HK := Lib.hid hk; clear hr hk)
    go_end0
    exact ⟨L', rfl, by rw [HE.out]; exact HR.out, (Moves.of (K1.out.alloc _)).trans HK.out⟩
  · by_cases h2 : f.fn = 2
    · have HE := Lib.hid (show S.slotsBit t f = S.giveBit t f by simp [MS.slotsBit, h2])
      have e1 : (f.fn == 1) = false := by simpa using h1
      have e2 : (f.fn == 2) = true := by simpa using h2
      clear h h1 h2
      go_enter Try.func13, Try.ntmps13
      go_wp2_with fail
      refine (core_Thread HX.out.rep _).mono ?_
      rw [HP.out]
      rintro e w' ⟨rfl, rfl⟩
      go_wp2_with fail
      refine (frame_Top (HX.out.rep.cth t HX.out.ht) (by rw [HX.out.hf]; have := HX.out.hd; simp; omega)).mono ?_
      rw [HQ.out]
      rintro e w1 ⟨rfl, n, hn⟩
      have h1 := HX.out.congr (w' := w1) (by rw [hn]; exact HX.out.rep.drewN n)
      have K1 := Lib.hid (show Kept L w w1 by rw [hn]; exact (Kept.refl _ _).drewN n)
      have H1 := Lib.hid h1
      have fc := (h1.rep.topCells h1.ht h1.hb h1.hf).1.cell 0 (by decide)
      have hbz := (h1.rep.topCells h1.ht h1.hb h1.hf).1.lt
      simp only [frCell] at fc
      clear h1 hn
      go_wp2_with fail
      refine (core_Thread H1.out.rep _).mono ?_
      rw [HP.out]
      rintro e w' ⟨rfl, rfl⟩
      go_wp2_with (go_at_call 36; refine (give_any (H1.out.congr (H1.out.rep.alloc _))).mono ?_; rintro e w2 ⟨L', rfl, hr, hk⟩; have HR := Lib.hid hr; have HK := Lib.hid hk; clear hr hk)
      go_end0
      exact ⟨L', rfl, by rw [HE.out]; exact HR.out, (Moves.of (K1.out.alloc _)).trans HK.out⟩
    · have HE := Lib.hid (show S.slotsBit t f = S by simp [MS.slotsBit, h1, h2])
      have e1 : (f.fn == 1) = false := by simpa using h1
      have e2 : (f.fn == 2) = false := by simpa using h2
      clear h h1 h2
      go_enter Try.func13, Try.ntmps13
      go_wp2_with fail
      refine (core_Thread HX.out.rep _).mono ?_
      rw [HP.out]
      rintro e w' ⟨rfl, rfl⟩
      go_wp2_with fail
      refine (frame_Top (HX.out.rep.cth t HX.out.ht) (by rw [HX.out.hf]; have := HX.out.hd; simp; omega)).mono ?_
      rw [HQ.out]
      rintro e w1 ⟨rfl, n, hn⟩
      have h1 := HX.out.congr (w' := w1) (by rw [hn]; exact HX.out.rep.drewN n)
      have K1 := Lib.hid (show Kept L w w1 by rw [hn]; exact (Kept.refl _ _).drewN n)
      have H1 := Lib.hid h1
      have fc := (h1.rep.topCells h1.ht h1.hb h1.hf).1.cell 0 (by decide)
      have hbz := (h1.rep.topCells h1.ht h1.hb h1.hf).1.lt
      simp only [frCell] at fc
      clear h1 hn
      go_wp2_with fail
      refine (core_Thread H1.out.rep _).mono ?_
      rw [HP.out]
      rintro e w' ⟨rfl, rfl⟩
      go_wp2
      go_end0
      exact ⟨L, rfl, by rw [HE.out]; exact H1.out.rep.alloc _, Moves.of (K1.out.alloc _)⟩
end Go.Proofs.Ytjnikgliecgbdaa
