/- Contracts of package slots: head, swing, raw. -/
import Derived.Test.YtjnikgliecgbdaaFrameB
import Derived.Deep.RegionHeld3
namespace Go.Proofs.Ytjnikgliecgbdaa
open Go.RowKit

theorem Kept.cell {L : Lay} {w w' : World} (h : Kept L w w') {b i : Nat} {v : Value} (ho : L.own b = .free) (hc : w.cell? ⟨b, i, none⟩ = some v) : w'.cell? ⟨b, i, none⟩ = some v :=
  (World.cell?_of_block (w := w) (h.block b (World.block_lt_of_cell? w _ hc) ho)).trans hc

/-- The top frame of a thread, as the world holds it. -/
theorem Rep.topCells {L : Lay} {S : MS} {w : World} (h : Rep L S w) {t : Nat} (ht : t < S.T) {b : Nat} {bs : List Nat} {f : FS} {fs : List FS} (hb : L.fr t = b :: bs) (hf : (S.th t).frames = f :: fs) :
    Cells w b 46 26 (frCell f) ∧ L.own b = .frame t fs.length := by
  have hq := (h.cth t ht).frs
  rw [hb, hf] at hq
  exact ⟨hq.2.1, hq.1⟩

theorem at1_th (S : MS) (a : Int) : (S.at1 a).th = S.th := rfl
theorem top_frames (S : MS) (t : Nat) (g : FS) : ((S.top t g).th t).frames = g :: (S.th t).frames.tail := by simp [MS.top, upd]
theorem top_top (S : MS) (t : Nat) (g g' : FS) : (S.top t g).top t g' = S.top t g' := by
  unfold MS.top
  simp only [upd_same, List.tail_cons]
  congr 1
  funext j
  unfold upd
  split <;> rfl

/-- A routine's own record: the machine, the thread, the frame. -/
def runVal (L : Lay) (t b : Nat) : Array Value := #[.pointer (some ⟨L.s.m, 0, none⟩), .pointer (some ⟨L.s.th t, 0, none⟩), .pointer (some ⟨b, 0, none⟩)]

theorem slots_raw {L : Lay} {S : MS} {w : World} (h : Rep L S w) (t b : Nat) (s f : Int) :
    Calls Try.prog 60 #[.agg #[.pointer (some ⟨L.s.m, 0, none⟩), .pointer (some ⟨L.s.th t, 0, none⟩), .pointer (some ⟨b, 0, none⟩)], .int .i64 s, .int .i64 f] w fun e w' => e = .returned (.int .i64 (S.nodeAt s f)) ∧ w' = w.alloc (.cells #[.pointer (some ⟨L.s.m, 0, none⟩), .pointer (some ⟨L.s.th t, 0, none⟩), .pointer (some ⟨b, 0, none⟩)] 91) := by
  have H := Lib.hid h
  clear h
  go_enter Try.func60, Try.ntmps60
  go_wp2_with (first | (go_at_call 30; refine (core_Plan (H.out.alloc _)).mono ?_; rintro e w' ⟨rfl, rfl⟩) | (go_at_call 52; refine (plan_Node (H.out.alloc _) _ _).mono ?_; rintro e w' ⟨rfl, rfl⟩))
  go_ret
  exact ⟨rfl, rfl⟩

set_option maxRecDepth 100000 in
set_option maxHeartbeats 800000 in
theorem slots_head {L : Lay} {S : MS} {w : World} (h : Rep L S w) {t : Nat} (ht : t < S.T) {b : Nat} {bs : List Nat} {f : FS} {fs : List FS} (hb : L.fr t = b :: bs) (hf : (S.th t).frames = f :: fs) (pc : Int) :
    Calls Try.prog 57 #[.agg #[.pointer (some ⟨L.s.m, 0, none⟩), .pointer (some ⟨L.s.th t, 0, none⟩), .pointer (some ⟨b, 0, none⟩)], .int .i64 pc] w fun e w' => Told L ((S.at1 2).top t { f with r := upd f.r 1 (S.load 2), pc := pc }) (.tuple #[]) w e w' := by
  have hfree := h.fresh w.heap.size (Nat.le_refl _)
  obtain ⟨tc, to⟩ := h.topCells ht hb hf
  have hbB : b ≠ w.heap.size := role_ne to hfree (by simp)
  obtain ⟨w1, hw1⟩ : ∃ w1, w1 = w.alloc (.cells #[.pointer (some ⟨L.s.m, 0, none⟩), .pointer (some ⟨L.s.th t, 0, none⟩), .pointer (some ⟨b, 0, none⟩)] 91) := ⟨_, rfl⟩
  have h1 : Rep L S w1 := by rw [hw1]; exact h.alloc _
  have k1 : Kept L w w1 := by rw [hw1]; exact (Kept.refl _ _).alloc _
  have a0 : w1.cell? ⟨w.heap.size, 0, none⟩ = some (.pointer (some ⟨L.s.m, 0, none⟩)) := by rw [hw1]; simp
  have a2 : w1.cell? ⟨w.heap.size, 2, none⟩ = some (.pointer (some ⟨b, 0, none⟩)) := by rw [hw1]; simp
  have H1 := Lib.hid h1
  have K1 := Lib.hid k1
  have HF := Lib.hid hf
  have HB := Lib.hid hb
  have HO := Lib.hid hfree
  have A2 := Lib.hid a2
  have A0 := Lib.hid a0
  clear h tc to h1 k1 hf hb hfree
  go_enter Try.func57, Try.ntmps57
  go_wp2_with fail
  rw [← hw1]
  clear hw1
  go_region_held3 (fun W => W.cell? ⟨w.heap.size, 0, none⟩ = some (.pointer (some ⟨L.s.m, 0, none⟩)) ∧ W.cell? ⟨w.heap.size, 2, none⟩ = some (.pointer (some ⟨b, 0, none⟩))) (go_keep)
    (first
    | (go_at_call 32; refine (core_Mem H1.out.drew).mono ?_; rintro e w' ⟨rfl, rfl⟩)
    | (go_at_call 59; refine (mem_Load H1.out.drew 2).mono ?_; rintro e w2 ⟨rfl, hr, hk⟩; have b0 := hk.cell HO.out A0.out; have b2 := hk.cell HO.out A2.out; have fc := (hr.topCells ht HB.out HF.out).1.cell 3 (by decide); have ff := (hr.topCells ht HB.out HF.out).1.frozen 3; have fc1 := (hr.topCells ht HB.out HF.out).1.cell 1 (by decide); have ff1 := (hr.topCells ht HB.out HF.out).1.frozen 1; have HR := Lib.hid hr; have HK := Lib.hid hk; clear hr hk))
  go_wp2
  go_end0
  refine ⟨rfl, ?_, ?_⟩
  · have := (HR.out.setR ht HB.out HF.out 1 (S.load 2)).setPC (f := { f with r := upd f.r 1 (S.load 2) }) (fs := fs) ht HB.out (by rw [top_frames]; show _ = _ :: fs; rw [at1_th, HF.out]; rfl) pc
    rw [top_top] at this
    exact this
  · exact (K1.out.trans ((Kept.refl _ _).drew.trans HK.out)).setCell (by rw [(HR.out.topCells ht HB.out HF.out).2]; simp) _ |>.setCell (by rw [(HR.out.topCells ht HB.out HF.out).2]; simp) _
end Go.Proofs.Ytjnikgliecgbdaa
