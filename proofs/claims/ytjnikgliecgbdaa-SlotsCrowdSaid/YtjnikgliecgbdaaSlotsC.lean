/- Contracts of package slots: the further bits of Take. -/
import Derived.Test.YtjnikgliecgbdaaSlotsB
namespace Go.Proofs.Ytjnikgliecgbdaa
open Go.RowKit

/-- One number, in a row that was just made. -/
theorem src_one {w : World} {B g : Nat} {x : Int} (hB : B = w.heap.size) (hg : g < w.heap.size) :
    0 < [x].length → ∃ ad, some (⟨B, 0, none⟩ : Addr) = some ad ∧ ad.block < (w.alloc (.cells #[.int .u64 x] 22)).heap.size ∧ ad.block ≠ g ∧
      ∀ (j : Nat) (y : Int), [x][j]? = some y → (w.alloc (.cells #[.int .u64 x] 22)).cell? (ad.add j) = some (.int .u64 y) := by
  intro _
  subst hB
  refine ⟨_, rfl, by simp, by show w.heap.size ≠ g; omega, fun j y hj => ?_⟩
  match j, hj with
  | 0, hj => cases hj; simp [Addr.add]

theorem cell_reg (f : FS) (i : Nat) : frCell f (i + 2) = .int .u64 (f.r i) := rfl

set_option maxRecDepth 100000 in
set_option maxHeartbeats 800000 in
theorem take_1z {L : Lay} {S : MS} {w : World} {t b : Nat} {bs : List Nat} {f : FS} {fs : List FS} (h : Bit L S w t b bs f fs) (hp : f.pc = 1) (hz : Bt.slot (f.r 1) = 0) :
    Calls Try.prog 35 #[.agg #[.pointer (some ⟨L.s.m, 0, none⟩), .pointer (some ⟨L.s.th t, 0, none⟩), .pointer (some ⟨b, 0, none⟩)]] w fun e w' => Goes L (S.takeBit t f) (.tuple #[]) w e w' := by
  have fc1 := (h.rep.topCells h.ht h.hb h.hf).1.cell 1 (by decide)
  have fc3 := (h.rep.topCells h.ht h.hb h.hf).1.cell 3 (by decide)
  have hbz := (h.rep.topCells h.ht h.hb h.hf).1.lt
  simp only [frCell, hp] at fc1 fc3
  have CS := Lib.hid fun w => badge_Slot (f.r 1) w
  rw [hz] at CS
  have HE := Lib.hid (show S.takeBit t f = S.back t [0] by simp [MS.takeBit, hp, hz])
  have HX := Lib.hid h
  have hthz := (h.rep.cth t h.ht).cells.lt
  clear h hp hz
  go_enter Try.func35, Try.ntmps35
  go_wp2_with (first
    | (go_at_call 56; refine (CS.out _).mono ?_; rintro e w' ⟨rfl, rfl⟩)
    | (go_at_call 58; refine (frame_Back ((HX.out.rep.alloc _).alloc _) HX.out.ht HX.out.hf (by have := HX.out.hd; omega) [0] (by decide) _ _ (src_one (by simp) (by simp; omega))).mono ?_; rintro e w2 ⟨L', rfl, hr, hk⟩; have HR := Lib.hid hr; have HK := Lib.hid hk; clear hr hk))
  go_end0
  exact ⟨L', rfl, by rw [HE.out]; exact HR.out, (Moves.of (((Kept.refl _ _).alloc _).alloc _)).trans HK.out⟩

set_option maxRecDepth 100000 in
set_option maxHeartbeats 1600000 in
theorem take_1 {L : Lay} {S : MS} {w : World} {t b : Nat} {bs : List Nat} {f : FS} {fs : List FS} (h : Bit L S w t b bs f fs) (hp : f.pc = 1) (hz : Bt.slot (f.r 1) ≠ 0) :
    Calls Try.prog 35 #[.agg #[.pointer (some ⟨L.s.m, 0, none⟩), .pointer (some ⟨L.s.th t, 0, none⟩), .pointer (some ⟨b, 0, none⟩)]] w fun e w' => Goes L (S.takeBit t f) (.tuple #[]) w e w' := by
  have hfree := h.rep.fresh w.heap.size (Nat.le_refl _)
  have hbz := (h.rep.topCells h.ht h.hb h.hf).1.lt
  have hbB : b ≠ w.heap.size := by omega
  have hzb : (Bt.slot (f.r 1) == 0) = false := by simpa using hz
  have HE := Lib.hid (show S.takeBit t f = (S.at1 (S.nodeAt (Bt.slot (f.r 1)) 0)).top t { f with r := upd f.r 2 (S.load (S.nodeAt (Bt.slot (f.r 1)) 0)), pc := 2 } by simp [MS.takeBit, hp, hz])
  obtain ⟨w1, hw1⟩ : ∃ w1, w1 = w.alloc (.cells #[.pointer (some ⟨L.s.m, 0, none⟩), .pointer (some ⟨L.s.th t, 0, none⟩), .pointer (some ⟨b, 0, none⟩)] 93) := ⟨_, rfl⟩
  have h1 : Bit L S w1 t b bs f fs := ⟨by rw [hw1]; exact h.rep.alloc _, h.ht, h.hb, h.hf, h.hd, h.hc⟩
  have k1 : Kept L w w1 := by rw [hw1]; exact (Kept.refl _ _).alloc _
  have a0 : w1.cell? ⟨w.heap.size, 0, none⟩ = some (.pointer (some ⟨L.s.m, 0, none⟩)) := by rw [hw1]; simp
  have a1 : w1.cell? ⟨w.heap.size, 1, none⟩ = some (.pointer (some ⟨L.s.th t, 0, none⟩)) := by rw [hw1]; simp
  have a2 : w1.cell? ⟨w.heap.size, 2, none⟩ = some (.pointer (some ⟨b, 0, none⟩)) := by rw [hw1]; simp
  have fc1 := (h.rep.topCells h.ht h.hb h.hf).1.cell 1 (by decide)
  have fc3 := (h.rep.topCells h.ht h.hb h.hf).1.cell 3 (by decide)
  simp only [frCell, hp] at fc1 fc3
  have HX := Lib.hid h1
  have K1 := Lib.hid k1
  have A0 := Lib.hid a0
  have A1 := Lib.hid a1
  have A2 := Lib.hid a2
  have HO := Lib.hid hfree
  clear h h1 k1 hp hz hfree
  go_enter Try.func35, Try.ntmps35
  go_wp2_with (go_at_call 56; refine (badge_Slot _ _).mono ?_; rintro e w' ⟨rfl, rfl⟩)
  rw [← hw1]
  clear hw1
  go_region_held3 (fun W => W.cell? ⟨w.heap.size, 0, none⟩ = some (.pointer (some ⟨L.s.m, 0, none⟩)) ∧ W.cell? ⟨w.heap.size, 1, none⟩ = some (.pointer (some ⟨L.s.th t, 0, none⟩)) ∧ W.cell? ⟨w.heap.size, 2, none⟩ = some (.pointer (some ⟨b, 0, none⟩))) (go_keep)
    (first
    | (go_at_call 32; refine (core_Mem (L := L) (S := S) (by first | exact HX.out.rep.drew | exact HX.out.rep.drew.alloc _ | exact (HX.out.rep.alloc _).drew)).mono ?_; rintro e w' ⟨rfl, rfl⟩)
    | (go_at_call 60; refine (slots_raw (L := L) (S := S) HX.out.rep.drew t b _ _).mono ?_; rintro e w' ⟨rfl, rfl⟩)
    | (go_at_call 59; refine (mem_Load (L := L) (S := S) (by first | exact HX.out.rep.drew.alloc _ | exact (HX.out.rep.alloc _).drew) _).mono ?_; rintro e w2 ⟨rfl, hr, hk⟩; have hk' : Kept L w1 w2 := (((Kept.refl _ _).alloc _).drew).trans hk; have b0 := hk'.cell HO.out A0.out; have b1 := hk'.cell HO.out A1.out; have b2 := hk'.cell HO.out A2.out; have fcr := (hr.topCells HX.out.ht HX.out.hb HX.out.hf).1.cell 4 (by decide); have ffr := (hr.topCells HX.out.ht HX.out.hb HX.out.hf).1.frozen 4; have fcp := (hr.topCells HX.out.ht HX.out.hb HX.out.hf).1.cell 1 (by decide); have ffp := (hr.topCells HX.out.ht HX.out.hb HX.out.hf).1.frozen 1; have HR := Lib.hid hr; have HK := Lib.hid hk'; clear hr hk hk'))
  go_wp2
  go_end0
  have hth : ((S.at1 (S.nodeAt (Bt.slot (f.r 1)) 0)).th t).frames = f :: fs := HX.out.hf
  refine ⟨L, rfl, ?_, Moves.of ?_⟩
  · rw [HE.out]
    have := (HR.out.setR HX.out.ht HX.out.hb hth 2 (S.load (S.nodeAt (Bt.slot (f.r 1)) 0))).setPC (f := { f with r := upd f.r 2 (S.load (S.nodeAt (Bt.slot (f.r 1)) 0)) }) (fs := fs) HX.out.ht HX.out.hb (by rw [top_frames, hth]; rfl) 2
    rw [top_top] at this
    exact this
  · exact ((K1.out.trans HK.out).setCell (by rw [(HR.out.topCells HX.out.ht HX.out.hb hth).2]; simp) _).setCell (by rw [(HR.out.topCells HX.out.ht HX.out.hb hth).2]; simp) _
end Go.Proofs.Ytjnikgliecgbdaa
