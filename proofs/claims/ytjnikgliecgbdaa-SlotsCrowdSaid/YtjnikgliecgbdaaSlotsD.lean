/- Contracts of package slots: the last bits of Take. -/
import Derived.Test.YtjnikgliecgbdaaSlotsC
namespace Go.Proofs.Ytjnikgliecgbdaa
open Go.RowKit


theorem new_cell {w : World} {arr : Array Value} {ty : TypeId} {B i : Nat} {v : Value} (hB : B = w.heap.size) (h : arr[i]? = some v) : (w.alloc (.cells arr ty (0, 0))).cell? ⟨B, i, none⟩ = some v := by
  subst hB
  have e : (w.alloc (.cells arr ty (0, 0))).heap[w.heap.size]? = some (.cells arr ty (0, 0)) := by show (w.heap.push _)[w.heap.size]? = _; simp
  unfold World.cell?
  rw [e]
  simpa using h
theorem setCell_size (w : World) (a : Addr) (v : Value) : w.heap.size = (w.setCell a v).heap.size := by simp [World.setCell]

set_option maxRecDepth 100000 in
set_option maxHeartbeats 1600000 in
theorem take_2 {L : Lay} {S : MS} {w : World} {t b : Nat} {bs : List Nat} {f : FS} {fs : List FS} (h : Bit L S w t b bs f fs) (hp : f.pc = 2) :
    Calls Try.prog 35 #[.agg #[.pointer (some ⟨L.s.m, 0, none⟩), .pointer (some ⟨L.s.th t, 0, none⟩), .pointer (some ⟨b, 0, none⟩)]] w fun e w' => Goes L (S.takeBit t f) (.tuple #[]) w e w' := by
  have hfree := h.rep.fresh w.heap.size (Nat.le_refl _)
  have tc := (h.rep.topCells h.ht h.hb h.hf).1
  have to := (h.rep.topCells h.ht h.hb h.hf).2
  have hbz := tc.lt
  have hbB : b ≠ w.heap.size := by omega
  have fc1 := tc.cell 1 (by decide)
  have ff1 := tc.frozen 1
  have fc3 := tc.cell 3 (by decide)
  simp only [frCell, hp] at fc1 fc3
  obtain ⟨w1, hw1⟩ : ∃ w1, w1 = (w.setCell ⟨b, 1, none⟩ (.int .i64 0)).alloc (.cells #[.pointer (some ⟨L.s.m, 0, none⟩), .pointer (some ⟨L.s.th t, 0, none⟩), .pointer (some ⟨b, 0, none⟩)] 93) := ⟨_, rfl⟩
  have h2 : Rep L (S.top t { f with pc := 0 }) w1 := by rw [hw1]; exact (h.rep.setPC h.ht h.hb h.hf 0).alloc _
  have hf2 : ((S.top t { f with pc := 0 }).th t).frames = { f with pc := 0 } :: fs := by rw [top_frames, h.hf]; rfl
  have k2 : Kept L w w1 := by rw [hw1]; exact ((Kept.refl _ _).setCell (by rw [to]; simp) _).alloc _
  have a0 : w1.cell? ⟨w.heap.size, 0, none⟩ = some (.pointer (some ⟨L.s.m, 0, none⟩)) := by rw [hw1]; exact new_cell (setCell_size _ _ _) rfl
  have a1 : w1.cell? ⟨w.heap.size, 1, none⟩ = some (.pointer (some ⟨L.s.th t, 0, none⟩)) := by rw [hw1]; exact new_cell (setCell_size _ _ _) rfl
  have a2 : w1.cell? ⟨w.heap.size, 2, none⟩ = some (.pointer (some ⟨b, 0, none⟩)) := by rw [hw1]; exact new_cell (setCell_size _ _ _) rfl
  have a4 := (h2.topCells h.ht h.hb hf2).1.cell 4 (by decide)
  simp only [frCell] at a4
  have A0 := Lib.hid a0
  have HX := Lib.hid h
  have H2 := Lib.hid h2
  have HF2 := Lib.hid hf2
  have K2 := Lib.hid k2
  have HO := Lib.hid hfree
  have HT := Lib.hid to
  have HW := Lib.hid hw1
  cases hcas : S.casOk 2 (f.r 1) with
  | false =>
    have HE := Lib.hid (show S.takeBit t f = (S.top t { f with pc := 0 }).cas 2 (f.r 1) (Bt.head (IntKind.i64.wrap (f.r 2)) (Bt.chg (f.r 1) + 1)) by simp [MS.takeBit, hp, hcas])
    have HC := Lib.hid (show (S.top t { f with pc := 0 }).casOk 2 (f.r 1) = false from hcas)
    clear h tc to hp h2 hf2 k2 hfree hcas hw1
    go_enter Try.func35, Try.ntmps35
    go_wp2_with (go_at_call 56; refine (badge_Slot _ _).mono ?_; rintro e w' ⟨rfl, rfl⟩)
    rw [← HW.out]
    go_region_held3 (fun W => W.cell? ⟨w.heap.size, 0, none⟩ = some (.pointer (some ⟨L.s.m, 0, none⟩)) ∧ W.cell? ⟨w.heap.size, 1, none⟩ = some (.pointer (some ⟨L.s.th t, 0, none⟩)) ∧ W.cell? ⟨w.heap.size, 2, none⟩ = some (.pointer (some ⟨b, 0, none⟩)) ∧ W.cell? ⟨b, 4, none⟩ = some (.int .u64 (f.r 2))) (go_keep)
      (first
      | (go_at_call 61; refine (slots_swing H2.out.drew HX.out.ht HX.out.hb HF2.out _).mono ?_; simp only [HC.out]; rintro e w3 ⟨rfl, hr, hk⟩; have HR := Lib.hid hr; have HK := Lib.hid hk; have b0 := hk.cell (b := w.heap.size) HO.out a0; have b1 := hk.cell (b := w.heap.size) HO.out a1; have b2 := hk.cell (b := w.heap.size) HO.out a2; have b4 := (hr.topCells HX.out.ht HX.out.hb HF2.out).1.cell 4 (by decide); simp only [frCell] at b4; clear hr hk))
    go_wp2
    go_end0
    exact ⟨L, rfl, by rw [HE.out]; exact HR.out, Moves.of (K2.out.trans ((Kept.refl _ _).drew.trans HK.out))⟩
  | true =>
    have HE := Lib.hid (show S.takeBit t f = (((S.top t { f with pc := 0 }).cas 2 (f.r 1) (Bt.head (IntKind.i64.wrap (f.r 2)) (Bt.chg (f.r 1) + 1))).take (Bt.slot (f.r 1))).top t { f with pc := 3 } by simp [MS.takeBit, hp, hcas])
    have HC := Lib.hid (show (S.top t { f with pc := 0 }).casOk 2 (f.r 1) = true from hcas)
    clear h tc to hp h2 hf2 k2 hfree hcas hw1
    go_enter Try.func35, Try.ntmps35
    go_wp2_with (go_at_call 56; refine (badge_Slot _ _).mono ?_; rintro e w' ⟨rfl, rfl⟩)
    rw [← HW.out]
    go_region_held3 (fun W => W.cell? ⟨w.heap.size, 0, none⟩ = some (.pointer (some ⟨L.s.m, 0, none⟩)) ∧ W.cell? ⟨w.heap.size, 1, none⟩ = some (.pointer (some ⟨L.s.th t, 0, none⟩)) ∧ W.cell? ⟨w.heap.size, 2, none⟩ = some (.pointer (some ⟨b, 0, none⟩)) ∧ W.cell? ⟨b, 4, none⟩ = some (.int .u64 (f.r 2))) (go_keep)
      (first
      | (go_at_call 61; refine (slots_swing H2.out.drew HX.out.ht HX.out.hb HF2.out _).mono ?_; simp only [HC.out]; rintro e w3 ⟨rfl, hr, hk⟩; have HR := Lib.hid hr; have HK := Lib.hid hk; have b0 := hk.cell (b := w.heap.size) HO.out a0; have b1 := hk.cell (b := w.heap.size) HO.out a1; have b2 := hk.cell (b := w.heap.size) HO.out a2; have b4 := (hr.topCells HX.out.ht HX.out.hb HF2.out).1.cell 4 (by decide); simp only [frCell] at b4; clear hr hk))
    go_wp2_with (first
      | (go_at_call 15; refine (core_Guard HR.out).mono ?_; rintro e w' ⟨rfl, rfl⟩)
      | (go_at_call 28; refine (guard_Take HR.out _ (by have := HX.out.hc; show S.cnt ≤ 5000; omega)).mono ?_; rintro e w4 ⟨rfl, hr, hk⟩; have tcc := (hr.topCells HX.out.ht HX.out.hb HF2.out).1; have fx1 := tcc.cell 1 (by decide); have fy1 := tcc.frozen 1; clear tcc; have HR' := Lib.hid hr; have HK' := Lib.hid hk; clear hr hk))
    go_end0
    have hth := (show ((((S.top t { f with pc := 0 }).cas 2 (f.r 1) (Bt.head (IntKind.i64.wrap (f.r 2)) (Bt.chg (f.r 1) + 1))).take (Bt.slot (f.r 1))).th t).frames = { f with pc := 0 } :: fs from HF2.out)
    refine ⟨L, rfl, ?_, Moves.of (((K2.out.trans ((Kept.refl _ _).drew.trans HK.out)).trans HK'.out).setCell (by rw [HT.out]; simp) _)⟩
    rw [HE.out]
    exact HR'.out.setPC HX.out.ht HX.out.hb hth 3

set_option maxRecDepth 100000 in
set_option maxHeartbeats 1600000 in
theorem take_3 {L : Lay} {S : MS} {w : World} {t b : Nat} {bs : List Nat} {f : FS} {fs : List FS} (h : Bit L S w t b bs f fs) (h0 : f.pc ≠ 0) (h1 : f.pc ≠ 1) (h2 : f.pc ≠ 2) :
    Calls Try.prog 35 #[.agg #[.pointer (some ⟨L.s.m, 0, none⟩), .pointer (some ⟨L.s.th t, 0, none⟩), .pointer (some ⟨b, 0, none⟩)]] w fun e w' => Goes L (S.takeBit t f) (.tuple #[]) w e w' := by
  have hfree := h.rep.fresh w.heap.size (Nat.le_refl _)
  have tc := (h.rep.topCells h.ht h.hb h.hf).1
  have hbz := tc.lt
  have hthz := (h.rep.cth t h.ht).cells.lt
  have fc1 := tc.cell 1 (by decide)
  have fc3 := tc.cell 3 (by decide)
  simp only [frCell] at fc1 fc3
  have e0 : (f.pc == 0) = false := by simpa using h0
  have e1 : (f.pc == 1) = false := by simpa using h1
  have e2 : (f.pc == 2) = false := by simpa using h2
  have hsb := slot_bd (f.r 1)
  have HE := Lib.hid (show S.takeBit t f = (S.at1 (S.nodeAt (Bt.slot (f.r 1)) 1)).back t [Bt.slot (f.r 1) + 4096 * (S.load (S.nodeAt (Bt.slot (f.r 1)) 1) % Bt.p50)] by simp [MS.takeBit, h0, h1, h2])
  obtain ⟨w1, hw1⟩ : ∃ w1, w1 = w.alloc (.cells #[.pointer (some ⟨L.s.m, 0, none⟩), .pointer (some ⟨L.s.th t, 0, none⟩), .pointer (some ⟨b, 0, none⟩)] 93) := ⟨_, rfl⟩
  have hr1 : Rep L S w1 := by rw [hw1]; exact h.rep.alloc _
  have k1 : Kept L w w1 := by rw [hw1]; exact (Kept.refl _ _).alloc _
  have a0 : w1.cell? ⟨w.heap.size, 0, none⟩ = some (.pointer (some ⟨L.s.m, 0, none⟩)) := by rw [hw1]; simp
  have a1 : w1.cell? ⟨w.heap.size, 1, none⟩ = some (.pointer (some ⟨L.s.th t, 0, none⟩)) := by rw [hw1]; simp
  have a2 : w1.cell? ⟨w.heap.size, 2, none⟩ = some (.pointer (some ⟨b, 0, none⟩)) := by rw [hw1]; simp
  have HX := Lib.hid h
  have HO := Lib.hid hfree
  have HW := Lib.hid hw1
  have H1 := Lib.hid hr1
  have K1 := Lib.hid k1
  have A0 := Lib.hid a0
  have A1 := Lib.hid a1
  have A2 := Lib.hid a2
  clear h tc hfree h0 h1 h2 hw1 hr1 k1
  go_enter Try.func35, Try.ntmps35
  go_wp2_with (first
    | (go_at_call 56; refine (badge_Slot _ _).mono ?_; rintro e w' ⟨rfl, rfl⟩))
  rw [← HW.out]
  go_region_held3 (fun W => W.cell? ⟨w.heap.size, 0, none⟩ = some (.pointer (some ⟨L.s.m, 0, none⟩)) ∧ W.cell? ⟨w.heap.size, 1, none⟩ = some (.pointer (some ⟨L.s.th t, 0, none⟩)) ∧ W.cell? ⟨w.heap.size, 2, none⟩ = some (.pointer (some ⟨b, 0, none⟩))) (go_keep)
    (first
    | (go_at_call 32; refine (core_Mem (L := L) (S := S) (by first | exact H1.out.drew | exact H1.out.drew.alloc _ | exact (H1.out.alloc _).drew)).mono ?_; rintro e w' ⟨rfl, rfl⟩)
    | (go_at_call 60; refine (slots_raw (L := L) (S := S) H1.out.drew t b _ _).mono ?_; rintro e w' ⟨rfl, rfl⟩)
    | (go_at_call 53; refine (edge_Make _ _ _ (by omega) (by omega)).mono ?_; rintro e w' ⟨rfl, rfl⟩)
    | (go_at_call 59; refine (mem_Load (L := L) (S := S) (by first | exact H1.out.drew.alloc _ | exact (H1.out.alloc _).drew) _).mono ?_; rintro e w2 ⟨rfl, hr, hk⟩; have hk' : Kept L w1 w2 := (((Kept.refl _ _).alloc _).drew).trans hk; have b0 := hk'.cell HO.out A0.out; have b1 := hk'.cell HO.out A1.out; have b2 := hk'.cell HO.out A2.out; have hz2 := hk'.size; have HR := Lib.hid hr; have HK := Lib.hid hk'; clear hr hk hk')
    | (go_at_call 58; refine (frame_Back (HR.out.alloc _) HX.out.ht HX.out.hf (by have := HX.out.hd; omega) [Bt.slot (f.r 1) + 4096 * (S.load (S.nodeAt (Bt.slot (f.r 1)) 1) % Bt.p50)] (by simp) _ _ (src_one (by simp) (by exact (HR.out.cth _ HX.out.ht).cells.lt))).mono ?_; rintro e w5 ⟨L', rfl, hr, hk⟩; have b0 := (((Kept.refl _ _).alloc _).trans hk.kept).cell HO.out b0; have b1 := (((Kept.refl _ _).alloc _).trans hk.kept).cell HO.out b1; have b2 := (((Kept.refl _ _).alloc _).trans hk.kept).cell HO.out b2; have HR5 := Lib.hid hr; have HK5 := Lib.hid hk; clear hr hk))
  go_wp2
  go_end0
  exact ⟨L', rfl, by rw [HE.out]; exact HR5.out, (Moves.of ((K1.out.trans HK.out).alloc _)).trans HK5.out⟩
end Go.Proofs.Ytjnikgliecgbdaa
