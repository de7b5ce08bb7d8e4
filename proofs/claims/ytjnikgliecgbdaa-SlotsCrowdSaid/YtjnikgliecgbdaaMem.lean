/- Contracts of package mem over a world that holds a machine. -/
import Derived.Test.YtjnikgliecgbdaaSets
import Derived.Test.YtjnikgliecgbdaaEdge
import Derived.Deep.LoopGhost
import Derived.Outline
import Derived.Deep.RegionWith
import Derived.Lib.Hide
namespace Go.Proofs.Ytjnikgliecgbdaa
open Go.RowKit

/-- A call told v, and the world holds the machine in another state. -/
def Told (L : Lay) (S : MS) (v : Value) (w : World) (e : Ending) (w' : World) : Prop := e = .returned v ∧ Rep L S w' ∧ Kept L w w'

/-- An access to a place: is it in place? -/
def MS.okAt (S : MS) (a : Int) : Bool := decide (0 ≤ a ∧ a < S.nw)
/-- An access counted, to one place. -/
def MS.at1 (S : MS) (a : Int) : MS := { S with acc := wrap64 (S.acc + 1), mfault := S.mfault || !S.okAt a }
def MS.load (S : MS) (a : Int) : Int := if S.okAt a = true then S.words a.toNat else 0
def MS.store (S : MS) (a v : Int) : MS := { S.at1 a with words := if S.okAt a = true then upd S.words a.toNat v else S.words }
def MS.casOk (S : MS) (a old : Int) : Bool := S.okAt a && (S.words a.toNat == old)
def MS.cas (S : MS) (a old next : Int) : MS := { S.at1 a with words := if S.casOk a old = true then upd S.words a.toNat next else S.words }

theorem at1_yes {S : MS} {a : Int} (h : S.okAt a = true) : S.at1 a = { S with acc := wrap64 (S.acc + 1) } := by simp [MS.at1, h]
theorem at1_no {S : MS} {a : Int} (h : S.okAt a = false) : S.at1 a = { S with acc := wrap64 (S.acc + 1), mfault := true } := by simp [MS.at1, h]
theorem upd_self {α : Type} (f : Nat → α) (i : Nat) : upd f i (f i) = f := by
  funext j; unfold upd; split
  · subst_vars; rfl
  · rfl

set_option maxHeartbeats 400000 in
theorem mem_at1_yes {L : Lay} {S : MS} {w : World} (h : Rep L S w) (a : Int) (B : Nat) (hB : w.cell? ⟨B, 0, none⟩ = some (.int .i64 a)) (h0 : 0 ≤ a) (h1 : a < S.nw) (hne : B ≠ L.s.me) :
    Calls Try.prog 77 #[.pointer (some ⟨L.s.me, 0, none⟩), .slice (some ⟨B, 0, none⟩) 1 1] w fun e w' => e = .returned (.bool true) ∧ w' = w.setCell ⟨L.s.me, 1, none⟩ (.int .i64 (wrap64 (S.acc + 1))) := by
  have c0 := h.cme.cell 0 (by decide)
  have c1 := h.cme.cell 1 (by decide)
  have f1 := h.cme.frozen 1
  have hnw := h.nw
  have hT := h.T6
  have hN := h.N250
  simp only [memCell] at c0 c1
  have hnw' : S.nw ≤ 5000 := by omega
  clear hnw hT hN h
  have := hne
  obtain ⟨k, rfl⟩ := Int.eq_ofNat_of_zero_le h0
  go_enter Try.func77, Try.ntmps77
  go_wp2
  refine wp_loop_rounds 2 ?_
  rw [rounds_succ]
  go_wp2
  rw [rounds_succ]
  go_wp2
  go_ret
  exact ⟨rfl, rfl⟩

set_option maxHeartbeats 400000 in
theorem mem_at1_low {L : Lay} {S : MS} {w : World} (h : Rep L S w) (a : Int) (B : Nat) (hB : w.cell? ⟨B, 0, none⟩ = some (.int .i64 a)) (h0 : a < 0) (hne : B ≠ L.s.me) :
    Calls Try.prog 77 #[.pointer (some ⟨L.s.me, 0, none⟩), .slice (some ⟨B, 0, none⟩) 1 1] w fun e w' => e = .returned (.bool false) ∧ w' = (w.setCell ⟨L.s.me, 1, none⟩ (.int .i64 (wrap64 (S.acc + 1)))).setCell ⟨L.s.me, 2, none⟩ (.bool true) := by
  have c0 := h.cme.cell 0 (by decide)
  have c1 := h.cme.cell 1 (by decide)
  have c2 := h.cme.cell 2 (by decide)
  have f1 := h.cme.frozen 1
  have f2 := h.cme.frozen 2
  simp only [memCell] at c0 c1 c2
  clear h
  have := hne
  go_enter Try.func77, Try.ntmps77
  go_wp2
  refine wp_loop_rounds 1 ?_
  rw [rounds_succ]
  go_wp2
  go_ret
  exact ⟨rfl, rfl⟩

set_option maxHeartbeats 400000 in
theorem mem_at1_high {L : Lay} {S : MS} {w : World} (h : Rep L S w) (a : Int) (B : Nat) (hB : w.cell? ⟨B, 0, none⟩ = some (.int .i64 a)) (h0 : (S.nw : Int) ≤ a) (hne : B ≠ L.s.me) :
    Calls Try.prog 77 #[.pointer (some ⟨L.s.me, 0, none⟩), .slice (some ⟨B, 0, none⟩) 1 1] w fun e w' => e = .returned (.bool false) ∧ w' = (w.setCell ⟨L.s.me, 1, none⟩ (.int .i64 (wrap64 (S.acc + 1)))).setCell ⟨L.s.me, 2, none⟩ (.bool true) := by
  have c0 := h.cme.cell 0 (by decide)
  have c1 := h.cme.cell 1 (by decide)
  have c2 := h.cme.cell 2 (by decide)
  have f1 := h.cme.frozen 1
  have f2 := h.cme.frozen 2
  have hnw := h.nw
  have hT := h.T6
  have hN := h.N250
  simp only [memCell] at c0 c1 c2
  have hnw' : S.nw ≤ 5000 := by omega
  have hnn : ¬ a < 0 := by omega
  clear hnw hT hN h
  have := hne
  go_enter Try.func77, Try.ntmps77
  go_wp2
  refine wp_loop_rounds 1 ?_
  rw [rounds_succ]
  go_wp2
  go_ret
  exact ⟨rfl, rfl⟩

theorem Rep.at1 {L : Lay} {S : MS} {w : World} (h : Rep L S w) {a : Int} (hb : S.okAt a = true) : Rep L (S.at1 a) (w.setCell ⟨L.s.me, 1, none⟩ (.int .i64 (wrap64 (S.acc + 1)))) := by
  rw [at1_yes hb]; exact h.setAcc _
theorem Rep.at1n {L : Lay} {S : MS} {w : World} (h : Rep L S w) {a : Int} (hb : S.okAt a = false) : Rep L (S.at1 a) ((w.setCell ⟨L.s.me, 1, none⟩ (.int .i64 (wrap64 (S.acc + 1)))).setCell ⟨L.s.me, 2, none⟩ (.bool true)) := by
  rw [at1_no hb]; exact (h.setAcc (wrap64 (S.acc + 1))).setMFault true
theorem Kept.at1 {L : Lay} {S : MS} {w : World} (h : Rep L S w) (x : Int) : Kept L w (w.setCell ⟨L.s.me, 1, none⟩ (.int .i64 x)) := (Kept.refl _ _).setCell (by rw [h.ome]; simp) _
theorem Kept.at1n {L : Lay} {S : MS} {w : World} (h : Rep L S w) (x : Int) : Kept L w ((w.setCell ⟨L.s.me, 1, none⟩ (.int .i64 x)).setCell ⟨L.s.me, 2, none⟩ (.bool true)) := (Kept.at1 h x).setCell (by rw [h.ome]; simp) _

/-- One place, whichever. -/
theorem mem_at1 {L : Lay} {S : MS} {w : World} (h : Rep L S w) (a : Int) (B : Nat) (hB : w.cell? ⟨B, 0, none⟩ = some (.int .i64 a)) (hne : B ≠ L.s.me) :
    Calls Try.prog 77 #[.pointer (some ⟨L.s.me, 0, none⟩), .slice (some ⟨B, 0, none⟩) 1 1] w fun e w' => Told L (S.at1 a) (.bool (S.okAt a)) w e w' := by
  by_cases hlo : a < 0
  · have hb : S.okAt a = false := by simp [MS.okAt]; omega
    refine (mem_at1_low h a B hB hlo hne).mono ?_
    rintro e w' ⟨rfl, rfl⟩
    exact ⟨by rw [hb], h.at1n hb, Kept.at1n h _⟩
  · by_cases hhi : (S.nw : Int) ≤ a
    · have hb : S.okAt a = false := by simp [MS.okAt]; omega
      refine (mem_at1_high h a B hB hhi hne).mono ?_
      rintro e w' ⟨rfl, rfl⟩
      exact ⟨by rw [hb], h.at1n hb, Kept.at1n h _⟩
    · have hb : S.okAt a = true := by simp [MS.okAt]; omega
      refine (mem_at1_yes h a B hB (by omega) (by omega) hne).mono ?_
      rintro e w' ⟨rfl, rfl⟩
      exact ⟨by rw [hb], h.at1 hb, Kept.at1 h _⟩

theorem load_f (x : Int) (w : World) : Calls Try.prog 73 #[.int .u64 x] w fun e w' => e = .returned (.int .u64 x) ∧ w = w' := by
  go_enter Try.func73, Try.ntmps73
  go_wp2
  go_ret
  exact ⟨rfl, rfl⟩

theorem store_f (x y : Int) (b : Nat) (w : World) (hc : w.cell? ⟨b, 0, none⟩ = some (.int .u64 y)) : Calls Try.prog 76 #[.int .u64 x, .pointer (some ⟨b, 0, none⟩)] w fun e w' => e = .returned (.int .u64 y) ∧ w = w' := by
  go_enter Try.func76, Try.ntmps76
  go_wp2
  go_ret
  exact ⟨rfl, rfl⟩

set_option maxHeartbeats 400000 in
theorem mem_turn_load {L : Lay} {S : MS} {w : World} (h : Rep L S w) (a : Int) (hok : S.okAt a = true) :
    Calls Try.prog 72 #[.pointer (some ⟨L.s.me, 0, none⟩), .int .i64 a, .func (.func 73) #[] #[]] w fun e w' => Told L (S.at1 a) (.int .u64 (S.load a)) w e w' := by
  have hlo : S.load a = S.words a.toNat := by simp [MS.load, hok]
  have hr := hok
  simp [MS.okAt] at hr
  obtain ⟨h0, h1⟩ := hr
  obtain ⟨k, rfl⟩ := Int.eq_ofNat_of_zero_le h0
  have hk : k < S.nw := by omega
  have hnw := h.nw
  have hT := h.T6
  have hN := h.N250
  have hnw' : S.nw ≤ 5000 := by omega
  have hmz := h.cme.lt
  have hwz := h.cwb.lt
  have hne : L.s.me ≠ L.s.wb := role_ne h.ome h.owb (by decide)
  have cx := h.cme.cell 0 (by decide)
  have cw := h.cwb.cell k hk
  have fw := h.cwb.frozen k
  simp only [memCell] at cx
  simp only [Int.toNat_natCast] at hlo
  have H := Lib.hid h
  have HL := Lib.hid hlo
  have HO := Lib.hid hok
  clear h hnw hT hN hlo hok
  go_enter Try.func72, Try.ntmps72
  go_wp2_with fail
  refine (mem_at1_yes (H.out.alloc _) (k : Int) w.heap.size (by simp) (by omega) (by omega) (by omega)).mono ?_
  rintro e w' ⟨rfl, rfl⟩
  go_wp2_with fail
  go_region_with (go_at_call 73; refine (load_f _ _).mono ?_; rintro e w' ⟨rfl, rfl⟩)
  all_goals (go_wp2; go_ret; refine ⟨by rw [HL.out]; rfl, ?_, ?_⟩)
  all_goals first
  | exact (((Kept.at1 H.out _).setCell (by rw [H.out.owb]; simp) _).alloc _).drew
  | have := (H.out.at1 HO.out).setWord k (S.words k)
    rw [show upd (S.at1 k).words k (S.words k) = (S.at1 k).words from upd_self S.words k] at this
    exact (this.alloc _).drew

set_option maxHeartbeats 400000 in
theorem mem_turn_store {L : Lay} {S : MS} {w : World} (h : Rep L S w) (a v : Int) (b : Nat) (hv : w.cell? ⟨b, 0, none⟩ = some (.int .u64 v)) (hbo : L.own b = .free) (hok : S.okAt a = true) :
    Calls Try.prog 72 #[.pointer (some ⟨L.s.me, 0, none⟩), .int .i64 a, .func (.func 76) #[] #[.pointer (some ⟨b, 0, none⟩)]] w fun e w' => Told L (S.store a v) (.int .u64 (S.load a)) w e w' := by
  have hlo : S.load a = S.words a.toNat := by simp [MS.load, hok]
  have hst : S.store a v = { S.at1 a with words := upd S.words a.toNat v } := by simp [MS.store, hok]
  have hr := hok
  simp [MS.okAt] at hr
  obtain ⟨h0, h1⟩ := hr
  obtain ⟨k, rfl⟩ := Int.eq_ofNat_of_zero_le h0
  have hk : k < S.nw := by omega
  have hnw := h.nw
  have hT := h.T6
  have hN := h.N250
  have hnw' : S.nw ≤ 5000 := by omega
  have hmz := h.cme.lt
  have hwz := h.cwb.lt
  have hbz := World.block_lt_of_cell? w _ hv
  simp only at hbz
  have hne : L.s.me ≠ L.s.wb := role_ne h.ome h.owb (by decide)
  have hbm : b ≠ L.s.me := role_ne hbo h.ome (by decide)
  have hbw : b ≠ L.s.wb := role_ne hbo h.owb (by decide)
  have hv' : ∀ (o : Obj) (x : Value), ((w.setCell ⟨L.s.me, 1, none⟩ x).alloc o).drew.cell? ⟨b, 0, none⟩ = some (.int .u64 v) := fun o x => by
    rw [← hv]
    refine World.cell?_of_block ?_
    show ((w.setCell ⟨L.s.me, 1, none⟩ x).alloc o).heap[b]? = _
    rw [Below.heap_alloc _ _ _ (by simpa [World.setCell] using hbz), Below.heap_setCell _ _ _ _ hbm]
  have HV := Lib.hid hv'
  have cx := h.cme.cell 0 (by decide)
  have cw := h.cwb.cell k hk
  have fw := h.cwb.frozen k
  simp only [memCell] at cx
  simp only [Int.toNat_natCast] at hlo hst
  have H := Lib.hid h
  have HL := Lib.hid hlo
  have HO := Lib.hid hok
  have HS := Lib.hid hst
  clear h hnw hT hN hlo hok hst hbo hv'
  go_enter Try.func72, Try.ntmps72
  go_wp2_with fail
  refine (mem_at1_yes (H.out.alloc _) (k : Int) w.heap.size (by simp) (by omega) (by omega) (by omega)).mono ?_
  rintro e w' ⟨rfl, rfl⟩
  go_wp2_with fail
  go_region_with (go_at_call 76; refine (store_f _ v b _ (HV.out _ _)).mono ?_; rintro e w' ⟨rfl, rfl⟩)
  all_goals (go_wp2; go_ret; refine ⟨by rw [HL.out]; rfl, ?_, ?_⟩)
  all_goals first
  | exact (((Kept.at1 H.out _).setCell (by rw [H.out.owb]; simp) _).alloc _).drew
  | rw [HS.out]
    exact (((H.out.at1 HO.out).setWord k v).alloc _).drew
end Go.Proofs.Ytjnikgliecgbdaa
