/- Contracts of package slots: the bits of Give. -/
import Derived.Test.YtjnikgliecgbdaaSlotsD
namespace Go.Proofs.Ytjnikgliecgbdaa
open Go.RowKit

/-- A bit of Give. -/
def MS.giveBit (S : MS) (t : Nat) (f : FS) : MS :=
  if f.pc = 0 then ((S.store (S.nodeAt (Bt.slot (f.r 0)) 1) (Bt.gen (4096 * (IntKind.u64.wrap (Bt.gen (f.r 0) + 1) % Bt.p50)))).drop (f.r 0)).top t { f with pc := 3 }
  else if f.pc = 3 then (S.at1 2).top t { f with r := upd f.r 1 (S.load 2), pc := 1 }
  else if f.pc = 1 then (S.store (S.nodeAt (Bt.slot (f.r 0)) 0) (IntKind.u64.wrap (Bt.slot (f.r 1)))).top t { f with pc := 2 }
  else if S.casOk 2 (f.r 1) = true then ((S.top t { f with pc := 3 }).cas 2 (f.r 1) (Bt.head (Bt.slot (f.r 0)) (Bt.chg (f.r 1) + 1))).back t []
  else (S.top t { f with pc := 3 }).cas 2 (f.r 1) (Bt.head (Bt.slot (f.r 0)) (Bt.chg (f.r 1) + 1))

theorem gen_bd2 (x : Int) : 0 ≤ Bt.gen x ∧ Bt.gen x ≤ 1125899906842623 := by unfold Bt.gen Bt.p50; omega

set_option maxRecDepth 100000 in
set_option maxHeartbeats 1600000 in
theorem give_0 {L : Lay} {S : MS} {w : World} {t b : Nat} {bs : List Nat} {f : FS} {fs : List FS} (h : Bit L S w t b bs f fs) (hp : f.pc = 0) :
    Calls Try.prog 36 #[.agg #[.pointer (some ⟨L.s.m, 0, none⟩), .pointer (some ⟨L.s.th t, 0, none⟩), .pointer (some ⟨b, 0, none⟩)]] w fun e w' => Goes L (S.giveBit t f) (.tuple #[]) w e w' := by
  have hfree := h.rep.fresh w.heap.size (Nat.le_refl _)
  have tc := (h.rep.topCells h.ht h.hb h.hf).1
  have to := (h.rep.topCells h.ht h.hb h.hf).2
  have hbz := tc.lt
  have fc1 := tc.cell 1 (by decide)
  have fc2 := tc.cell 2 (by decide)
  simp only [frCell, hp] at fc1 fc2
  have hgb := gen_bd2 (f.r 0)
  have hsb := slot_bd (f.r 0)
  have HE := Lib.hid (show S.giveBit t f = ((S.store (S.nodeAt (Bt.slot (f.r 0)) 1) (Bt.gen (4096 * (IntKind.u64.wrap (Bt.gen (f.r 0) + 1) % Bt.p50)))).drop (f.r 0)).top t { f with pc := 3 } by simp [MS.giveBit, hp])
  obtain ⟨w1, hw1⟩ : ∃ w1, w1 = w.alloc (.cells #[.pointer (some ⟨L.s.m, 0, none⟩), .pointer (some ⟨L.s.th t, 0, none⟩), .pointer (some ⟨b, 0, none⟩)] 94) := ⟨_, rfl⟩
  have hr1 : Rep L S w1 := by rw [hw1]; exact h.rep.alloc _
  have k1 : Kept L w w1 := by rw [hw1]; exact (Kept.refl _ _).alloc _
  have a0 : w1.cell? ⟨w.heap.size, 0, none⟩ = some (.pointer (some ⟨L.s.m, 0, none⟩)) := by rw [hw1]; exact new_cell rfl rfl
  have a1 : w1.cell? ⟨w.heap.size, 1, none⟩ = some (.pointer (some ⟨L.s.th t, 0, none⟩)) := by rw [hw1]; exact new_cell rfl rfl
  have a2 : w1.cell? ⟨w.heap.size, 2, none⟩ = some (.pointer (some ⟨b, 0, none⟩)) := by rw [hw1]; exact new_cell rfl rfl
  have HX := Lib.hid h
  have HO := Lib.hid hfree
  have HT := Lib.hid to
  have HW := Lib.hid hw1
  have H1 := Lib.hid hr1
  have K1 := Lib.hid k1
  have A0 := Lib.hid a0
  have A1 := Lib.hid a1
  have A2 := Lib.hid a2
  clear h tc to hfree hp hw1 hr1 k1
  go_enter Try.func36, Try.ntmps36
  go_wp2
  rw [← HW.out]
  go_region_held3 (fun W => W.cell? ⟨w.heap.size, 0, none⟩ = some (.pointer (some ⟨L.s.m, 0, none⟩)) ∧ W.cell? ⟨w.heap.size, 1, none⟩ = some (.pointer (some ⟨L.s.th t, 0, none⟩)) ∧ W.cell? ⟨w.heap.size, 2, none⟩ = some (.pointer (some ⟨b, 0, none⟩))) (go_keep)
    (first
    | (go_at_call 32; refine (core_Mem (L := L) (S := S) (by first | exact H1.out.drew | exact H1.out.drew.alloc _ | exact (H1.out.alloc _).drew)).mono ?_; rintro e w' ⟨rfl, rfl⟩)
    | (go_at_call 60; refine (slots_raw (L := L) (S := S) H1.out.drew t b _ _).mono ?_; rintro e w' ⟨rfl, rfl⟩)
    | (go_at_call 53; refine (edge_Make _ _ _ (by omega) (by omega)).mono ?_; rintro e w' ⟨rfl, rfl⟩)
    | (go_at_call 18; refine (edge_Slot _ _).mono ?_; rintro e w' ⟨rfl, rfl⟩)
    | (go_at_call 63; refine (edge_Gen _ _).mono ?_; rintro e w' ⟨rfl, rfl⟩)
    | (go_at_call 62; refine (mem_Store (L := L) (S := S) (by first | exact H1.out.drew.alloc _ | exact (H1.out.alloc _).drew) _ _).mono ?_; rintro e w2 ⟨rfl, hr, hk⟩; have hk' : Kept L w1 w2 := (((Kept.refl _ _).alloc _).drew).trans hk; have b0 := hk'.cell HO.out A0.out; have b1 := hk'.cell HO.out A1.out; have b2 := hk'.cell HO.out A2.out; have HR := Lib.hid hr; have HK := Lib.hid hk'; clear hr hk hk'))
  go_wp2_with (first
    | (go_at_call 15; refine (core_Guard HR.out).mono ?_; rintro e w' ⟨rfl, rfl⟩)
    | (go_at_call 64; refine (guard_Drop HR.out _).mono ?_; rintro e w4 ⟨rfl, hr, hk⟩; have tcc := (hr.topCells HX.out.ht HX.out.hb HX.out.hf).1; have fx1 := tcc.cell 1 (by decide); have fy1 := tcc.frozen 1; clear tcc; have HR' := Lib.hid hr; have HK' := Lib.hid hk; clear hr hk))
  go_end0
  refine ⟨L, rfl, ?_, Moves.of (((K1.out.trans HK.out).trans HK'.out).setCell (by rw [HT.out]; simp) _)⟩
  rw [HE.out]
  exact HR'.out.setPC HX.out.ht HX.out.hb HX.out.hf 3

set_option maxRecDepth 100000 in
set_option maxHeartbeats 1600000 in
theorem give_3 {L : Lay} {S : MS} {w : World} {t b : Nat} {bs : List Nat} {f : FS} {fs : List FS} (h : Bit L S w t b bs f fs) (hp : f.pc = 3) :
    Calls Try.prog 36 #[.agg #[.pointer (some ⟨L.s.m, 0, none⟩), .pointer (some ⟨L.s.th t, 0, none⟩), .pointer (some ⟨b, 0, none⟩)]] w fun e w' => Goes L (S.giveBit t f) (.tuple #[]) w e w' := by
  have fc1 := (h.rep.topCells h.ht h.hb h.hf).1.cell 1 (by decide)
  have fc2 := (h.rep.topCells h.ht h.hb h.hf).1.cell 2 (by decide)
  have hbz := (h.rep.topCells h.ht h.hb h.hf).1.lt
  simp only [frCell, hp] at fc1 fc2
  have HE := Lib.hid (show S.giveBit t f = (S.at1 2).top t { f with r := upd f.r 1 (S.load 2), pc := 1 } by simp [MS.giveBit, hp])
  have HX := Lib.hid h
  clear h hp
  go_enter Try.func36, Try.ntmps36
  go_wp2_with (go_at_call 57; refine (slots_head (HX.out.rep.alloc _) HX.out.ht HX.out.hb HX.out.hf 1).mono ?_; rintro e w2 ⟨rfl, hr, hk⟩; have HR := Lib.hid hr; have HK := Lib.hid hk; clear hr hk)
  go_end0
  exact ⟨L, rfl, by rw [HE.out]; exact HR.out, Moves.of (((Kept.refl _ _).alloc _).trans HK.out)⟩

set_option maxRecDepth 100000 in
set_option maxHeartbeats 1600000 in
theorem give_1 {L : Lay} {S : MS} {w : World} {t b : Nat} {bs : List Nat} {f : FS} {fs : List FS} (h : Bit L S w t b bs f fs) (hp : f.pc = 1) :
    Calls Try.prog 36 #[.agg #[.pointer (some ⟨L.s.m, 0, none⟩), .pointer (some ⟨L.s.th t, 0, none⟩), .pointer (some ⟨b, 0, none⟩)]] w fun e w' => Goes L (S.giveBit t f) (.tuple #[]) w e w' := by
  have hfree := h.rep.fresh w.heap.size (Nat.le_refl _)
  have tc := (h.rep.topCells h.ht h.hb h.hf).1
  have to := (h.rep.topCells h.ht h.hb h.hf).2
  have hbz := tc.lt
  have fc1 := tc.cell 1 (by decide)
  have fc2 := tc.cell 2 (by decide)
  simp only [frCell, hp] at fc1 fc2
  have hsb := slot_bd (f.r 0)
  have hs1 := slot_bd (f.r 1)
  have HE := Lib.hid (show S.giveBit t f = (S.store (S.nodeAt (Bt.slot (f.r 0)) 0) (IntKind.u64.wrap (Bt.slot (f.r 1)))).top t { f with pc := 2 } by simp [MS.giveBit, hp])
  obtain ⟨w1, hw1⟩ : ∃ w1, w1 = w.alloc (.cells #[.pointer (some ⟨L.s.m, 0, none⟩), .pointer (some ⟨L.s.th t, 0, none⟩), .pointer (some ⟨b, 0, none⟩)] 94) := ⟨_, rfl⟩
  have hr1 : Rep L S w1 := by rw [hw1]; exact h.rep.alloc _
  have k1 : Kept L w w1 := by rw [hw1]; exact (Kept.refl _ _).alloc _
  have a0 : w1.cell? ⟨w.heap.size, 0, none⟩ = some (.pointer (some ⟨L.s.m, 0, none⟩)) := by rw [hw1]; exact new_cell rfl rfl
  have a1 : w1.cell? ⟨w.heap.size, 1, none⟩ = some (.pointer (some ⟨L.s.th t, 0, none⟩)) := by rw [hw1]; exact new_cell rfl rfl
  have a2 : w1.cell? ⟨w.heap.size, 2, none⟩ = some (.pointer (some ⟨b, 0, none⟩)) := by rw [hw1]; exact new_cell rfl rfl
  have a3 := (hr1.topCells h.ht h.hb h.hf).1.cell 3 (by decide)
  simp only [frCell] at a3
  have HX := Lib.hid h
  have HO := Lib.hid hfree
  have HT := Lib.hid to
  have HW := Lib.hid hw1
  have H1 := Lib.hid hr1
  have K1 := Lib.hid k1
  have A0 := Lib.hid a0
  have A1 := Lib.hid a1
  have A2 := Lib.hid a2
  clear h tc to hfree hp hw1 hr1 k1
  go_enter Try.func36, Try.ntmps36
  go_wp2
  rw [← HW.out]
  go_region_held3 (fun W => W.cell? ⟨w.heap.size, 0, none⟩ = some (.pointer (some ⟨L.s.m, 0, none⟩)) ∧ W.cell? ⟨w.heap.size, 1, none⟩ = some (.pointer (some ⟨L.s.th t, 0, none⟩)) ∧ W.cell? ⟨w.heap.size, 2, none⟩ = some (.pointer (some ⟨b, 0, none⟩)) ∧ W.cell? ⟨b, 3, none⟩ = some (.int .u64 (f.r 1))) (go_keep)
    (first
    | (go_at_call 32; refine (core_Mem (L := L) (S := S) (by first | exact H1.out.drew | exact H1.out.drew.alloc _ | exact (H1.out.alloc _).drew)).mono ?_; rintro e w' ⟨rfl, rfl⟩)
    | (go_at_call 60; refine (slots_raw (L := L) (S := S) H1.out.drew t b _ _).mono ?_; rintro e w' ⟨rfl, rfl⟩)
    | (go_at_call 56; refine (badge_Slot _ _).mono ?_; rintro e w' ⟨rfl, rfl⟩)
    | (go_at_call 18; refine (edge_Slot _ _).mono ?_; rintro e w' ⟨rfl, rfl⟩)
    | (go_at_call 62; refine (mem_Store (L := L) (S := S) (by first | exact H1.out.drew.alloc _ | exact (H1.out.alloc _).drew) _ _).mono ?_; rintro e w2 ⟨rfl, hr, hk⟩; have hk' : Kept L w1 w2 := (((Kept.refl _ _).alloc _).drew).trans hk; have b0 := hk'.cell HO.out A0.out; have b1 := hk'.cell HO.out A1.out; have b2 := hk'.cell HO.out A2.out; have tcc := (hr.topCells HX.out.ht HX.out.hb HX.out.hf).1; have b3 := tcc.cell 3 (by decide); have fx1 := tcc.cell 1 (by decide); have fy1 := tcc.frozen 1; simp only [frCell] at b3; clear tcc; have HR := Lib.hid hr; have HK := Lib.hid hk'; clear hr hk hk'))
  go_wp2
  go_end0
  refine ⟨L, rfl, ?_, Moves.of ((K1.out.trans HK.out).setCell (by rw [HT.out]; simp) _)⟩
  rw [HE.out]
  exact HR.out.setPC HX.out.ht HX.out.hb HX.out.hf 2

set_option maxRecDepth 100000 in
set_option maxHeartbeats 1600000 in
theorem give_2 {L : Lay} {S : MS} {w : World} {t b : Nat} {bs : List Nat} {f : FS} {fs : List FS} (h : Bit L S w t b bs f fs) (h0 : f.pc ≠ 0) (h1 : f.pc ≠ 1) (h3 : f.pc ≠ 3) :
    Calls Try.prog 36 #[.agg #[.pointer (some ⟨L.s.m, 0, none⟩), .pointer (some ⟨L.s.th t, 0, none⟩), .pointer (some ⟨b, 0, none⟩)]] w fun e w' => Goes L (S.giveBit t f) (.tuple #[]) w e w' := by
  have hfree := h.rep.fresh w.heap.size (Nat.le_refl _)
  have tc := (h.rep.topCells h.ht h.hb h.hf).1
  have to := (h.rep.topCells h.ht h.hb h.hf).2
  have hbz := tc.lt
  have hbB : b ≠ w.heap.size := by omega
  have fc1 := tc.cell 1 (by decide)
  have ff1 := tc.frozen 1
  have fc2 := tc.cell 2 (by decide)
  simp only [frCell] at fc1 fc2
  have e0 : (f.pc == 0) = false := by simpa using h0
  have e1 : (f.pc == 1) = false := by simpa using h1
  have e3 : (f.pc == 3) = false := by simpa using h3
  have hsb := slot_bd (f.r 0)
  obtain ⟨w1, hw1⟩ : ∃ w1, w1 = (w.setCell ⟨b, 1, none⟩ (.int .i64 3)).alloc (.cells #[.pointer (some ⟨L.s.m, 0, none⟩), .pointer (some ⟨L.s.th t, 0, none⟩), .pointer (some ⟨b, 0, none⟩)] 94) := ⟨_, rfl⟩
  have h2 : Rep L (S.top t { f with pc := 3 }) w1 := by rw [hw1]; exact (h.rep.setPC h.ht h.hb h.hf 3).alloc _
  have hf2 : ((S.top t { f with pc := 3 }).th t).frames = { f with pc := 3 } :: fs := by rw [top_frames, h.hf]; rfl
  have k2 : Kept L w w1 := by rw [hw1]; exact ((Kept.refl _ _).setCell (by rw [to]; simp) _).alloc _
  have a0 : w1.cell? ⟨w.heap.size, 0, none⟩ = some (.pointer (some ⟨L.s.m, 0, none⟩)) := by rw [hw1]; exact new_cell (setCell_size _ _ _) rfl
  have a1 : w1.cell? ⟨w.heap.size, 1, none⟩ = some (.pointer (some ⟨L.s.th t, 0, none⟩)) := by rw [hw1]; exact new_cell (setCell_size _ _ _) rfl
  have a2 : w1.cell? ⟨w.heap.size, 2, none⟩ = some (.pointer (some ⟨b, 0, none⟩)) := by rw [hw1]; exact new_cell (setCell_size _ _ _) rfl
  have HX := Lib.hid h
  have H2 := Lib.hid h2
  have HF2 := Lib.hid hf2
  have K2 := Lib.hid k2
  have HO := Lib.hid hfree
  have HT := Lib.hid to
  have HW := Lib.hid hw1
  cases hcas : S.casOk 2 (f.r 1) with
  | false =>
    have HE := Lib.hid (show S.giveBit t f = (S.top t { f with pc := 3 }).cas 2 (f.r 1) (Bt.head (Bt.slot (f.r 0)) (Bt.chg (f.r 1) + 1)) by simp [MS.giveBit, h0, h1, h3, hcas])
    have HC := Lib.hid (show (S.top t { f with pc := 3 }).casOk 2 (f.r 1) = false from hcas)
    clear h tc to h0 h1 h3 h2 hf2 k2 hfree hcas hw1
    go_enter Try.func36, Try.ntmps36
    go_wp2
    rw [← HW.out]
    go_region_held3 (fun W => W.cell? ⟨w.heap.size, 0, none⟩ = some (.pointer (some ⟨L.s.m, 0, none⟩)) ∧ W.cell? ⟨w.heap.size, 1, none⟩ = some (.pointer (some ⟨L.s.th t, 0, none⟩)) ∧ W.cell? ⟨w.heap.size, 2, none⟩ = some (.pointer (some ⟨b, 0, none⟩))) (go_keep)
      (first
      | (go_at_call 18; refine (edge_Slot _ _).mono ?_; rintro e w' ⟨rfl, rfl⟩)
      | (go_at_call 61; refine (slots_swing H2.out.drew HX.out.ht HX.out.hb HF2.out _).mono ?_; simp only [HC.out]; rintro e w3 ⟨rfl, hr, hk⟩; have HR := Lib.hid hr; have HK := Lib.hid hk; have b0 := hk.cell (b := w.heap.size) HO.out a0; have b1 := hk.cell (b := w.heap.size) HO.out a1; have b2 := hk.cell (b := w.heap.size) HO.out a2; clear hr hk))
    go_wp2
    go_end0
    exact ⟨L, rfl, by rw [HE.out]; exact HR.out, Moves.of (K2.out.trans ((Kept.refl _ _).drew.trans HK.out))⟩
  | true =>
    have HE := Lib.hid (show S.giveBit t f = ((S.top t { f with pc := 3 }).cas 2 (f.r 1) (Bt.head (Bt.slot (f.r 0)) (Bt.chg (f.r 1) + 1))).back t [] by simp [MS.giveBit, h0, h1, h3, hcas])
    have HC := Lib.hid (show (S.top t { f with pc := 3 }).casOk 2 (f.r 1) = true from hcas)
    clear h tc to h0 h1 h3 h2 hf2 k2 hfree hcas hw1
    go_enter Try.func36, Try.ntmps36
    go_wp2
    rw [← HW.out]
    go_region_held3 (fun W => W.cell? ⟨w.heap.size, 0, none⟩ = some (.pointer (some ⟨L.s.m, 0, none⟩)) ∧ W.cell? ⟨w.heap.size, 1, none⟩ = some (.pointer (some ⟨L.s.th t, 0, none⟩)) ∧ W.cell? ⟨w.heap.size, 2, none⟩ = some (.pointer (some ⟨b, 0, none⟩))) (go_keep)
      (first
      | (go_at_call 18; refine (edge_Slot _ _).mono ?_; rintro e w' ⟨rfl, rfl⟩)
      | (go_at_call 61; refine (slots_swing H2.out.drew HX.out.ht HX.out.hb HF2.out _).mono ?_; simp only [HC.out]; rintro e w3 ⟨rfl, hr, hk⟩; have HR := Lib.hid hr; have HK := Lib.hid hk; have b0 := hk.cell (b := w.heap.size) HO.out a0; have b1 := hk.cell (b := w.heap.size) HO.out a1; have b2 := hk.cell (b := w.heap.size) HO.out a2; clear hr hk))
    go_wp2_with (go_at_call 58; refine (frame_Back HR.out HX.out.ht HF2.out (by have := HX.out.hd; omega) [] (by decide) none 0 (by intro h; cases h)).mono ?_; rintro e w5 ⟨L', rfl, hr, hk⟩; have HR5 := Lib.hid hr; have HK5 := Lib.hid hk; clear hr hk)
    go_end0
    exact ⟨L', rfl, by rw [HE.out]; exact HR5.out, (Moves.of (K2.out.trans ((Kept.refl _ _).drew.trans HK.out))).trans HK5.out⟩
end Go.Proofs.Ytjnikgliecgbdaa
