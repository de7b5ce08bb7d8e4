/- Contract of the words at first. -/
import Derived.Test.YtjnikgliecgbdaaTree
namespace Go.Proofs.Ytjnikgliecgbdaa
open Go.RowKit

/-- A plan, whoever's. -/
def PlanAt (w : World) (p T N : Nat) (st : Int) : Prop := Cells w p 103 3 (fun i => match i with | 0 => .int .i64 T | 1 => .int .i64 N | _ => .int .u64 st)
def nodeI (T N : Nat) (s f : Int) : Int := if (1 ≤ s ∧ s ≤ N) ∧ (0 ≤ f ∧ f ≤ 6) then 3 + 8 * T + 7 * (s - 1) + f else -1

set_option maxHeartbeats 400000 in
theorem plan_NodeP {w : World} {p T N : Nat} {st : Int} (h : PlanAt w p T N st) (hT : T ≤ 6) (hN : N ≤ 250) (s f : Int) (h1a : 1 ≤ s) (h1b : s ≤ N) (h2a : 0 ≤ f) (h2b : f ≤ 6) :
    Calls Try.prog 52 #[.pointer (some ⟨p, 0, none⟩), .int .i64 s, .int .i64 f] w fun e w' => e = .returned (.int .i64 (3 + 8 * T + 7 * (s - 1) + f)) ∧ w = w' := by
  have c0 := h.cell 0 (by decide)
  have c1 := h.cell 1 (by decide)
  simp only at c0 c1
  clear h
  have C1 := Lib.hid fun w => plan_in s 1 N w
  have C2 := Lib.hid fun w => plan_in f 0 6 w
  rw [show (decide (1 ≤ s) && decide (s ≤ (N : Int))) = true by simp [h1a, h1b]] at C1
  rw [show (decide (0 ≤ f) && decide (f ≤ 6)) = true by simp [h2a, h2b]] at C2
  go_enter Try.func52, Try.ntmps52
  go_wp2_with fail
  refine (C1.out _).mono ?_
  rintro e w' ⟨rfl, rfl⟩
  go_wp2_with fail
  refine (C2.out _).mono ?_
  rintro e w' ⟨rfl, rfl⟩
  go_wp2
  go_ret
  exact ⟨rfl, rfl⟩

theorem plan_slotsP {w : World} {p T N : Nat} {st : Int} (h : PlanAt w p T N st) (hT : T ≤ 6) :
    Calls Try.prog 68 #[.pointer (some ⟨p, 0, none⟩)] w fun e w' => e = .returned (.int .i64 (3 + 8 * T)) ∧ w = w' := by
  have c0 := h.cell 0 (by decide)
  simp only at c0
  clear h
  go_enter Try.func68, Try.ntmps68
  go_wp2
  go_ret
  exact ⟨rfl, rfl⟩

set_option maxRecDepth 100000 in
set_option maxHeartbeats 400000 in
theorem plan_WordsP {w : World} {p T N : Nat} {st : Int} (h : PlanAt w p T N st) (hT : T ≤ 6) (hN : N ≤ 250) :
    Calls Try.prog 49 #[.pointer (some ⟨p, 0, none⟩)] w fun e w' => Quiets (.int .i64 (3 + 8 * T + 7 * N)) w e w' := by
  have c1 := h.cell 1 (by decide)
  simp only at c1
  have HP := Lib.hid h
  have e1 : IntKind.i64.wrap (7 * (N : Int)) = 7 * N := IntWalk.i64_in _ (by omega)
  have e2 : IntKind.i64.wrap (3 + 8 * (T : Int) + 7 * N) = 3 + 8 * T + 7 * N := IntWalk.i64_in _ (by omega)
  clear h
  go_enter Try.func49, Try.ntmps49
  go_wp2_with fail
  go_quiet ((go_at_call 68; exact quiet_eq (plan_slotsP (HP.out.congr rfl) hT)))
  go_wp2
  go_ret
  exact ⟨rfl, nq, rfl⟩

theorem plan_NodeN {w : World} {p T N : Nat} {st : Int} (h : PlanAt w p T N st) (hT : T ≤ 6) (hN : N ≤ 250) (s f : Nat) {x y : Int} (hx : x = s) (hy : y = f) (h1a : 1 ≤ s) (h1b : s ≤ N) (h2b : f ≤ 6) :
    Calls Try.prog 52 #[.pointer (some ⟨p, 0, none⟩), .int .i64 x, .int .i64 y] w fun e w' => e = .returned (.int .i64 ((nodeN T s f : Nat) : Int)) ∧ w = w' := by
  subst hx hy
  refine (plan_NodeP h hT hN s f (by omega) (by omega) (by omega) (by omega)).mono ?_
  rintro e w' ⟨rfl, rfl⟩
  refine ⟨?_, rfl⟩
  congr 2
  unfold nodeN
  omega

theorem info_u64r : (Try.prog.info? 22).map (fun i => (i.zero, i.size, i.bytes)) = some (some (.int .u64 0), 1, 8) := by kernel_rfl

def WordsPost (w : World) (T N nw : Nat) (e : Ending) (w' : World) : Prop :=
  ∃ B, e = .returned (.slice (some ⟨B, 0, none⟩) nw nw) ∧ w.heap.size ≤ B ∧ Cells w' B 22 nw (fun a => .int .u64 (linkW T N a)) ∧ Below w.heap.size w w'

/-- What stands in the middle of laying the words. -/
structure Laying (w : World) (p T N nw : Nat) (st : Int) (B : Nat) (g : Nat → Int) (W : World) : Prop where
  plan : PlanAt W p T N st
  cells : Cells W B 22 nw (fun a => .int .u64 (g a))
  below : Below w.heap.size w W
  lt : B < W.heap.size

theorem tree_ix0 (w : World) : (Instr.index 80 (.agg treeVals) (.int .i64 0)).run Try.prog w = .ok (.agg #[.int .i64 1, .bool false, .int .i64 3, .int .i64 2, .int .i64 5]) w := by kernel_rfl
theorem tree_ix1 (w : World) : (Instr.index 80 (.agg treeVals) (.int .i64 1)).run Try.prog w = .ok (.agg #[.int .i64 2, .bool false, .int .i64 2, .int .i64 3, .int .i64 4]) w := by kernel_rfl
theorem tree_ix2 (w : World) : (Instr.index 80 (.agg treeVals) (.int .i64 2)).run Try.prog w = .ok (.agg #[.int .i64 3, .bool true, .int .i64 1, .int .i64 0, .int .i64 0]) w := by kernel_rfl
theorem tree_ix3 (w : World) : (Instr.index 80 (.agg treeVals) (.int .i64 3)).run Try.prog w = .ok (.agg #[.int .i64 4, .bool true, .int .i64 2, .int .i64 0, .int .i64 0]) w := by kernel_rfl
theorem tree_ix4 (w : World) : (Instr.index 80 (.agg treeVals) (.int .i64 4)).run Try.prog w = .ok (.agg #[.int .i64 5, .bool true, .int .i64 3, .int .i64 0, .int .i64 0]) w := by kernel_rfl

theorem Laying.set {w : World} {p T N nw : Nat} {st : Int} {B : Nat} {g : Nat → Int} {W : World} (h : Laying w p T N nw st B g W) (hB : w.heap.size ≤ B) (hp : p < w.heap.size) (a : Nat) (v : Int) :
    Laying w p T N nw st B (upd g a v) (W.setCell ⟨B, a, none⟩ (.int .u64 v)) := by
  refine ⟨h.plan.set_ne (by show p ≠ B; omega) _, (h.cells.set a _).ext fun i _ => ?_, h.below.setCell hB _, by simpa [World.setCell] using h.lt⟩
  unfold upd
  split <;> rfl
theorem Laying.alloc {w : World} {p T N nw : Nat} {st : Int} {B : Nat} {g : Nat → Int} {W : World} (h : Laying w p T N nw st B g W) (o : Obj) : Laying w p T N nw st B g (W.alloc o) :=
  ⟨h.plan.alloc o, h.cells.alloc o, h.below.alloc h.below.size o, by have := h.lt; show _ < (W.heap.push o).size; rw [Array.size_push]; omega⟩
theorem Laying.drew {w : World} {p T N nw : Nat} {st : Int} {B : Nat} {g : Nat → Int} {W : World} (h : Laying w p T N nw st B g W) : Laying w p T N nw st B g W.drew :=
  ⟨h.plan.congr rfl, h.cells.congr rfl, ⟨h.below.os, h.below.tape, h.below.output, h.below.size, h.below.block⟩, h.lt⟩
theorem Laying.thru {w : World} {p T N nw : Nat} {st : Int} {B : Nat} {g : Nat → Int} {W W' : World} (h : Laying w p T N nw st B g W) (hp : p < w.heap.size) (hb : Below W.heap.size W W') : Laying w p T N nw st B g W' :=
  ⟨h.plan.congr (hb.block p (Nat.lt_of_lt_of_le hp h.below.size)), h.cells.congr (hb.block B h.lt), h.below.trans ⟨hb.os, hb.tape, hb.output, hb.size, fun k hk => hb.block k (Nat.lt_of_lt_of_le hk h.below.size)⟩, Nat.lt_of_lt_of_le h.lt hb.size⟩

set_option maxRecDepth 100000 in
set_option maxHeartbeats 4000000 in
theorem core_words {w : World} {p T N nw : Nat} {st : Int} (h : PlanAt w p T N st) (hT1 : 1 ≤ T) (hT : T ≤ 6) (hN7 : 7 ≤ N) (hN : N ≤ 250) (hnw : nw = 3 + 8 * T + 7 * N) :
    Calls Try.prog 24 #[.pointer (some ⟨p, 0, none⟩), .int .i64 N] w fun e w' => WordsPost w T N nw e w' := by
  have c0 := h.cell 0 (by decide)
  have c1 := h.cell 1 (by decide)
  have hpz := h.lt
  simp only at c0 c1
  obtain ⟨i0, hi, hz0, hz1, hz2⟩ := info_parts info_u64r
  have H := Lib.hid h
  clear h
  have hnw' := Lib.hid hnw
  clear hnw
  go_enter Try.func24, Try.ntmps24
  go_wp2_with fail
  refine (plan_WordsP H.out hT hN).mono ?_
  rintro e w1 ⟨rfl, n1, hn1⟩
  rw [show (3 + 8 * (T : Int) + 7 * N) = ((nw : Nat) : Int) by rw [hnw'.out]; push_cast; omega]
  have hp1 : PlanAt w1 p T N st := H.out.congr (by rw [hn1]; rfl)
  have hb1 : Below w.heap.size w w1 := by rw [hn1]; exact below_drewN (Below.refl _ _) _
  have hnw5 : nw ≤ 5000 := by rw [hnw'.out]; omega
  have hs1 : w1.heap.size = w.heap.size := by rw [hn1]; rfl
  have HP1 := Lib.hid hp1
  have HB1 := Lib.hid hb1
  clear hn1 hp1 hb1 c0 c1
  go_wp2_with (at_make; refine wpList_make_full _ rfl (.tmp 10) (.tmp 10) 56 rfl 0 22 i0 (.int .u64 0) 1 Try.underlying56 hi hz0 hz1 .i64 .i64 nw nw nw rfl rfl rfl rfl (by rw [hz2]; omega) (by unfold maxLen; omega) (Nat.zero_le _) ?hk)
  case hk =>
  intro w2 hown hgrow
  have hlay : Laying w p T N nw st w.heap.size (fun _ => 0) w2 := by
    refine ⟨HP1.out.congr (hgrow.block p (by rw [hs1]; exact hpz) (by simp)), ?_, HB1.out.grown hgrow (by omega) (fun k h => by cases h), ?_⟩
    · rcases hown.2 with ⟨e, _⟩ | ⟨g, cap, cur, hv, _, hg, _, _, hs, hx⟩
      · cases e
      · simp only [Value.slice.injEq, Option.some.injEq, Addr.mk.injEq, and_true] at hv
        obtain ⟨rfl, _, rfl⟩ := hv
        try rw [hs1] at hg
        refine ⟨cur, hg, by omega, fun j hj => ?_⟩
        have hh := congrArg (fun l : List Value => l[j]?) hx
        simp only [toList_madeCells_one, List.getElem?_replicate, if_pos hj, Nat.mul_one, List.getElem?_take] at hh
        simpa using hh
    · rcases hown.2 with ⟨e, _⟩ | ⟨g, cap, cur, hv, _, hg, _⟩
      · cases e
      · simp only [Value.slice.injEq, Option.some.injEq, Addr.mk.injEq, and_true] at hv
        obtain ⟨rfl, _, rfl⟩ := hv
        exact (Array.getElem?_eq_some_iff.1 hg).1
  have HL := Lib.hid hlay
  try rw [hs1]
  have hnw3 : 2 < nw := by rw [hnw'.out]; omega
  have d0 := hlay.cells.cell 0 (by omega)
  have d1 := hlay.cells.cell 1 (by omega)
  have d2 := hlay.cells.cell 2 (by omega)
  have g0 := hlay.cells.frozen 0
  have g1 := hlay.cells.frozen 1
  have g2 := hlay.cells.frozen 2
  clear hlay hown hgrow
  have hw0 : (0 : Int) < nw := by rw [hnw'.out]; omega
  have hw1 : (1 : Int) < nw := by rw [hnw'.out]; omega
  have hw2 : (2 : Int) < nw := by rw [hnw'.out]; omega
  go_wp2_with (first | (go_at_call 50; refine (badge_Head _ _ _ (by omega) (by omega)).mono ?_; rintro e w' ⟨rfl, rfl⟩) | (go_at_call 27; fail))
  refine (core_tree _).mono ?_
  rintro e w3 ⟨rfl, hb3⟩
  have hl3 : Laying w p T N nw st w.heap.size headW w3 := (((HL.out.set (Nat.le_refl _) hpz 0 1).set (Nat.le_refl _) hpz 1 3).set (Nat.le_refl _) hpz 2 6).thru hpz hb3
  have HL3 := Lib.hid hl3
  have hs3 := hl3.lt
  clear hb3 hl3 d0 d1 d2 g0 g1 g2 HL
  go_wp2_with fail
  have hT5 : ∀ s f : Nat, s ≤ N → 1 ≤ s → f ≤ 6 → nodeN T s f < nw := fun s f h1 h2 h3 => by rw [hnw'.out]; unfold nodeN; omega
  have HT5 := Lib.hid hT5
  clear hT5
  refine wp_loop_rounds 6 ?_
  rw [rounds_succ]
  have x0 := tree_ix0
  go_wp2_with fail
  clear x0
  obtain ⟨v0a, hv⟩ : ∃ v, v = w3.alloc (.cells #[.int .i64 1, .bool false, .int .i64 3, .int .i64 2, .int .i64 5] 79) := ⟨_, rfl⟩
  rw [← hv]
  have V := Lib.hid (show Laying w p T N nw st w.heap.size (headW) v0a by rw [hv]; exact HL3.out.alloc _)
  have a0 : v0a.cell? ⟨w3.heap.size, 0, none⟩ = some (.int .i64 1) := by rw [hv]; simp
  have a1 : v0a.cell? ⟨w3.heap.size, 1, none⟩ = some (.bool false) := by rw [hv]; simp
  have a2 : v0a.cell? ⟨w3.heap.size, 2, none⟩ = some (.int .i64 3) := by rw [hv]; simp
  have a3 : v0a.cell? ⟨w3.heap.size, 3, none⟩ = some (.int .i64 2) := by rw [hv]; simp
  have a4 : v0a.cell? ⟨w3.heap.size, 4, none⟩ = some (.int .i64 5) := by rw [hv]; simp
  clear hv
  have ne := Nat.ne_of_lt hs3
  have hlt := HT5.out 1 2 (by omega) (by omega) (by omega)
  have hltI : ((nodeN T 1 2 : Nat) : Int) < nw := by omega
  have d := V.out.cells.cell (nodeN T 1 2) hlt
  have g := V.out.cells.frozen (nodeN T 1 2)
  go_still_tail 11, (by kernel_rfl)
  repeat (first | still_call ((plan_NodeN (by first | exact V.out.plan | exact V.out.drew.plan) hT hN 1 2 rfl rfl (by omega) (by omega) (by omega)).mono fun _ _ ⟨a, b⟩ => ⟨a, b.symm⟩) | still_call ((order_Info false 3 (by omega) _).mono fun _ _ ⟨a, b⟩ => ⟨a, b.symm⟩) | still_step)
  refine wpStill_nil ?_
  go_wp2_with fail
  obtain ⟨v0b, hv⟩ : ∃ v, v = (v0a.setCell ⟨w.heap.size, nodeN T 1 2, none⟩ (.int .u64 6)).drew := ⟨_, rfl⟩
  rw [← hv]
  have V' := Lib.hid (show Laying w p T N nw st w.heap.size (upd (headW) (nodeN T 1 2) 6) v0b by rw [hv]; exact (V.out.set (Nat.le_refl _) hpz _ _).drew)
  replace a0 : v0b.cell? ⟨w3.heap.size, 0, none⟩ = some (.int .i64 1) := by rw [hv]; exact (World.cell?_setCell_other _ _ _ _ (fun h => ne (congrArg Addr.block h))).trans a0
  replace a1 : v0b.cell? ⟨w3.heap.size, 1, none⟩ = some (.bool false) := by rw [hv]; exact (World.cell?_setCell_other _ _ _ _ (fun h => ne (congrArg Addr.block h))).trans a1
  replace a2 : v0b.cell? ⟨w3.heap.size, 2, none⟩ = some (.int .i64 3) := by rw [hv]; exact (World.cell?_setCell_other _ _ _ _ (fun h => ne (congrArg Addr.block h))).trans a2
  replace a3 : v0b.cell? ⟨w3.heap.size, 3, none⟩ = some (.int .i64 2) := by rw [hv]; exact (World.cell?_setCell_other _ _ _ _ (fun h => ne (congrArg Addr.block h))).trans a3
  replace a4 : v0b.cell? ⟨w3.heap.size, 4, none⟩ = some (.int .i64 5) := by rw [hv]; exact (World.cell?_setCell_other _ _ _ _ (fun h => ne (congrArg Addr.block h))).trans a4
  clear hv V d g hlt hltI
  have V := V'
  clear V'
  have hlt := HT5.out 1 4 (by omega) (by omega) (by omega)
  have hltI : ((nodeN T 1 4 : Nat) : Int) < nw := by omega
  have d := V.out.cells.cell (nodeN T 1 4) hlt
  have g := V.out.cells.frozen (nodeN T 1 4)
  go_still_tail 9, (by kernel_rfl)
  repeat (first | still_call ((plan_NodeN (by first | exact V.out.plan | exact V.out.drew.plan) hT hN 1 4 rfl rfl (by omega) (by omega) (by omega)).mono fun _ _ ⟨a, b⟩ => ⟨a, b.symm⟩) | still_call ((edge_Make 2 0 _ (by omega) (by omega)).mono fun _ _ ⟨a, b⟩ => ⟨a, b.symm⟩) | still_step)
  refine wpStill_nil ?_
  go_wp2_with fail
  obtain ⟨v0c, hv⟩ : ∃ v, v = (v0b.setCell ⟨w.heap.size, nodeN T 1 4, none⟩ (.int .u64 2)).drew := ⟨_, rfl⟩
  rw [← hv]
  have V' := Lib.hid (show Laying w p T N nw st w.heap.size (upd (upd (headW) (nodeN T 1 2) 6) (nodeN T 1 4) 2) v0c by rw [hv]; exact (V.out.set (Nat.le_refl _) hpz _ _).drew)
  replace a0 : v0c.cell? ⟨w3.heap.size, 0, none⟩ = some (.int .i64 1) := by rw [hv]; exact (World.cell?_setCell_other _ _ _ _ (fun h => ne (congrArg Addr.block h))).trans a0
  replace a1 : v0c.cell? ⟨w3.heap.size, 1, none⟩ = some (.bool false) := by rw [hv]; exact (World.cell?_setCell_other _ _ _ _ (fun h => ne (congrArg Addr.block h))).trans a1
  replace a2 : v0c.cell? ⟨w3.heap.size, 2, none⟩ = some (.int .i64 3) := by rw [hv]; exact (World.cell?_setCell_other _ _ _ _ (fun h => ne (congrArg Addr.block h))).trans a2
  replace a3 : v0c.cell? ⟨w3.heap.size, 3, none⟩ = some (.int .i64 2) := by rw [hv]; exact (World.cell?_setCell_other _ _ _ _ (fun h => ne (congrArg Addr.block h))).trans a3
  replace a4 : v0c.cell? ⟨w3.heap.size, 4, none⟩ = some (.int .i64 5) := by rw [hv]; exact (World.cell?_setCell_other _ _ _ _ (fun h => ne (congrArg Addr.block h))).trans a4
  clear hv V d g hlt hltI
  have V := V'
  clear V'
  have hlt := HT5.out 1 5 (by omega) (by omega) (by omega)
  have hltI : ((nodeN T 1 5 : Nat) : Int) < nw := by omega
  have d := V.out.cells.cell (nodeN T 1 5) hlt
  have g := V.out.cells.frozen (nodeN T 1 5)
  go_still_tail 9, (by kernel_rfl)
  repeat (first | still_call ((plan_NodeN (by first | exact V.out.plan | exact V.out.drew.plan) hT hN 1 5 rfl rfl (by omega) (by omega) (by omega)).mono fun _ _ ⟨a, b⟩ => ⟨a, b.symm⟩) | still_call ((edge_Make 5 0 _ (by omega) (by omega)).mono fun _ _ ⟨a, b⟩ => ⟨a, b.symm⟩) | still_step)
  refine wpStill_nil ?_
  go_wp2_with fail
  obtain ⟨v0d, hv⟩ : ∃ v, v = (v0c.setCell ⟨w.heap.size, nodeN T 1 5, none⟩ (.int .u64 5)).drew := ⟨_, rfl⟩
  rw [← hv]
  have V' := Lib.hid (show Laying w p T N nw st w.heap.size (upd (upd (upd (headW) (nodeN T 1 2) 6) (nodeN T 1 4) 2) (nodeN T 1 5) 5) v0d by rw [hv]; exact (V.out.set (Nat.le_refl _) hpz _ _).drew)
  replace a0 : v0d.cell? ⟨w3.heap.size, 0, none⟩ = some (.int .i64 1) := by rw [hv]; exact (World.cell?_setCell_other _ _ _ _ (fun h => ne (congrArg Addr.block h))).trans a0
  replace a1 : v0d.cell? ⟨w3.heap.size, 1, none⟩ = some (.bool false) := by rw [hv]; exact (World.cell?_setCell_other _ _ _ _ (fun h => ne (congrArg Addr.block h))).trans a1
  replace a2 : v0d.cell? ⟨w3.heap.size, 2, none⟩ = some (.int .i64 3) := by rw [hv]; exact (World.cell?_setCell_other _ _ _ _ (fun h => ne (congrArg Addr.block h))).trans a2
  replace a3 : v0d.cell? ⟨w3.heap.size, 3, none⟩ = some (.int .i64 2) := by rw [hv]; exact (World.cell?_setCell_other _ _ _ _ (fun h => ne (congrArg Addr.block h))).trans a3
  replace a4 : v0d.cell? ⟨w3.heap.size, 4, none⟩ = some (.int .i64 5) := by rw [hv]; exact (World.cell?_setCell_other _ _ _ _ (fun h => ne (congrArg Addr.block h))).trans a4
  clear hv V d g hlt hltI
  have V := V'
  clear V'
  clear a0 a1 a2 a3 a4 ne
  have hs0e : w.heap.size < v0d.heap.size := V.out.lt
  have HL0e := Lib.hid (show Laying w p T N nw st w.heap.size (upd (upd (upd (headW) (nodeN T 1 2) 6) (nodeN T 1 4) 2) (nodeN T 1 5) 5) v0d from V.out)
  clear V HL3 hs3
  rw [rounds_succ]
  have x0 := tree_ix1
  go_wp2_with fail
  clear x0
  obtain ⟨v1a, hv⟩ : ∃ v, v = v0d.alloc (.cells #[.int .i64 2, .bool false, .int .i64 2, .int .i64 3, .int .i64 4] 79) := ⟨_, rfl⟩
  rw [← hv]
  have V := Lib.hid (show Laying w p T N nw st w.heap.size (upd (upd (upd (headW) (nodeN T 1 2) 6) (nodeN T 1 4) 2) (nodeN T 1 5) 5) v1a by rw [hv]; exact HL0e.out.alloc _)
  have a0 : v1a.cell? ⟨v0d.heap.size, 0, none⟩ = some (.int .i64 2) := by rw [hv]; simp
  have a1 : v1a.cell? ⟨v0d.heap.size, 1, none⟩ = some (.bool false) := by rw [hv]; simp
  have a2 : v1a.cell? ⟨v0d.heap.size, 2, none⟩ = some (.int .i64 2) := by rw [hv]; simp
  have a3 : v1a.cell? ⟨v0d.heap.size, 3, none⟩ = some (.int .i64 3) := by rw [hv]; simp
  have a4 : v1a.cell? ⟨v0d.heap.size, 4, none⟩ = some (.int .i64 4) := by rw [hv]; simp
  clear hv
  have ne := Nat.ne_of_lt hs0e
  have hlt := HT5.out 2 2 (by omega) (by omega) (by omega)
  have hltI : ((nodeN T 2 2 : Nat) : Int) < nw := by omega
  have d := V.out.cells.cell (nodeN T 2 2) hlt
  have g := V.out.cells.frozen (nodeN T 2 2)
  go_still_tail 11, (by kernel_rfl)
  repeat (first | still_call ((plan_NodeN (by first | exact V.out.plan | exact V.out.drew.plan) hT hN 2 2 rfl rfl (by omega) (by omega) (by omega)).mono fun _ _ ⟨a, b⟩ => ⟨a, b.symm⟩) | still_call ((order_Info false 2 (by omega) _).mono fun _ _ ⟨a, b⟩ => ⟨a, b.symm⟩) | still_step)
  refine wpStill_nil ?_
  go_wp2_with fail
  obtain ⟨v1b, hv⟩ : ∃ v, v = (v1a.setCell ⟨w.heap.size, nodeN T 2 2, none⟩ (.int .u64 4)).drew := ⟨_, rfl⟩
  rw [← hv]
  have V' := Lib.hid (show Laying w p T N nw st w.heap.size (upd (upd (upd (upd (headW) (nodeN T 1 2) 6) (nodeN T 1 4) 2) (nodeN T 1 5) 5) (nodeN T 2 2) 4) v1b by rw [hv]; exact (V.out.set (Nat.le_refl _) hpz _ _).drew)
  replace a0 : v1b.cell? ⟨v0d.heap.size, 0, none⟩ = some (.int .i64 2) := by rw [hv]; exact (World.cell?_setCell_other _ _ _ _ (fun h => ne (congrArg Addr.block h))).trans a0
  replace a1 : v1b.cell? ⟨v0d.heap.size, 1, none⟩ = some (.bool false) := by rw [hv]; exact (World.cell?_setCell_other _ _ _ _ (fun h => ne (congrArg Addr.block h))).trans a1
  replace a2 : v1b.cell? ⟨v0d.heap.size, 2, none⟩ = some (.int .i64 2) := by rw [hv]; exact (World.cell?_setCell_other _ _ _ _ (fun h => ne (congrArg Addr.block h))).trans a2
  replace a3 : v1b.cell? ⟨v0d.heap.size, 3, none⟩ = some (.int .i64 3) := by rw [hv]; exact (World.cell?_setCell_other _ _ _ _ (fun h => ne (congrArg Addr.block h))).trans a3
  replace a4 : v1b.cell? ⟨v0d.heap.size, 4, none⟩ = some (.int .i64 4) := by rw [hv]; exact (World.cell?_setCell_other _ _ _ _ (fun h => ne (congrArg Addr.block h))).trans a4
  clear hv V d g hlt hltI
  have V := V'
  clear V'
  have hlt := HT5.out 2 4 (by omega) (by omega) (by omega)
  have hltI : ((nodeN T 2 4 : Nat) : Int) < nw := by omega
  have d := V.out.cells.cell (nodeN T 2 4) hlt
  have g := V.out.cells.frozen (nodeN T 2 4)
  go_still_tail 9, (by kernel_rfl)
  repeat (first | still_call ((plan_NodeN (by first | exact V.out.plan | exact V.out.drew.plan) hT hN 2 4 rfl rfl (by omega) (by omega) (by omega)).mono fun _ _ ⟨a, b⟩ => ⟨a, b.symm⟩) | still_call ((edge_Make 3 0 _ (by omega) (by omega)).mono fun _ _ ⟨a, b⟩ => ⟨a, b.symm⟩) | still_step)
  refine wpStill_nil ?_
  go_wp2_with fail
  obtain ⟨v1c, hv⟩ : ∃ v, v = (v1b.setCell ⟨w.heap.size, nodeN T 2 4, none⟩ (.int .u64 3)).drew := ⟨_, rfl⟩
  rw [← hv]
  have V' := Lib.hid (show Laying w p T N nw st w.heap.size (upd (upd (upd (upd (upd (headW) (nodeN T 1 2) 6) (nodeN T 1 4) 2) (nodeN T 1 5) 5) (nodeN T 2 2) 4) (nodeN T 2 4) 3) v1c by rw [hv]; exact (V.out.set (Nat.le_refl _) hpz _ _).drew)
  replace a0 : v1c.cell? ⟨v0d.heap.size, 0, none⟩ = some (.int .i64 2) := by rw [hv]; exact (World.cell?_setCell_other _ _ _ _ (fun h => ne (congrArg Addr.block h))).trans a0
  replace a1 : v1c.cell? ⟨v0d.heap.size, 1, none⟩ = some (.bool false) := by rw [hv]; exact (World.cell?_setCell_other _ _ _ _ (fun h => ne (congrArg Addr.block h))).trans a1
  replace a2 : v1c.cell? ⟨v0d.heap.size, 2, none⟩ = some (.int .i64 2) := by rw [hv]; exact (World.cell?_setCell_other _ _ _ _ (fun h => ne (congrArg Addr.block h))).trans a2
  replace a3 : v1c.cell? ⟨v0d.heap.size, 3, none⟩ = some (.int .i64 3) := by rw [hv]; exact (World.cell?_setCell_other _ _ _ _ (fun h => ne (congrArg Addr.block h))).trans a3
  replace a4 : v1c.cell? ⟨v0d.heap.size, 4, none⟩ = some (.int .i64 4) := by rw [hv]; exact (World.cell?_setCell_other _ _ _ _ (fun h => ne (congrArg Addr.block h))).trans a4
  clear hv V d g hlt hltI
  have V := V'
  clear V'
  have hlt := HT5.out 2 5 (by omega) (by omega) (by omega)
  have hltI : ((nodeN T 2 5 : Nat) : Int) < nw := by omega
  have d := V.out.cells.cell (nodeN T 2 5) hlt
  have g := V.out.cells.frozen (nodeN T 2 5)
  go_still_tail 9, (by kernel_rfl)
  repeat (first | still_call ((plan_NodeN (by first | exact V.out.plan | exact V.out.drew.plan) hT hN 2 5 rfl rfl (by omega) (by omega) (by omega)).mono fun _ _ ⟨a, b⟩ => ⟨a, b.symm⟩) | still_call ((edge_Make 4 0 _ (by omega) (by omega)).mono fun _ _ ⟨a, b⟩ => ⟨a, b.symm⟩) | still_step)
  refine wpStill_nil ?_
  go_wp2_with fail
  obtain ⟨v1d, hv⟩ : ∃ v, v = (v1c.setCell ⟨w.heap.size, nodeN T 2 5, none⟩ (.int .u64 4)).drew := ⟨_, rfl⟩
  rw [← hv]
  have V' := Lib.hid (show Laying w p T N nw st w.heap.size (upd (upd (upd (upd (upd (upd (headW) (nodeN T 1 2) 6) (nodeN T 1 4) 2) (nodeN T 1 5) 5) (nodeN T 2 2) 4) (nodeN T 2 4) 3) (nodeN T 2 5) 4) v1d by rw [hv]; exact (V.out.set (Nat.le_refl _) hpz _ _).drew)
  replace a0 : v1d.cell? ⟨v0d.heap.size, 0, none⟩ = some (.int .i64 2) := by rw [hv]; exact (World.cell?_setCell_other _ _ _ _ (fun h => ne (congrArg Addr.block h))).trans a0
  replace a1 : v1d.cell? ⟨v0d.heap.size, 1, none⟩ = some (.bool false) := by rw [hv]; exact (World.cell?_setCell_other _ _ _ _ (fun h => ne (congrArg Addr.block h))).trans a1
  replace a2 : v1d.cell? ⟨v0d.heap.size, 2, none⟩ = some (.int .i64 2) := by rw [hv]; exact (World.cell?_setCell_other _ _ _ _ (fun h => ne (congrArg Addr.block h))).trans a2
  replace a3 : v1d.cell? ⟨v0d.heap.size, 3, none⟩ = some (.int .i64 3) := by rw [hv]; exact (World.cell?_setCell_other _ _ _ _ (fun h => ne (congrArg Addr.block h))).trans a3
  replace a4 : v1d.cell? ⟨v0d.heap.size, 4, none⟩ = some (.int .i64 4) := by rw [hv]; exact (World.cell?_setCell_other _ _ _ _ (fun h => ne (congrArg Addr.block h))).trans a4
  clear hv V d g hlt hltI
  have V := V'
  clear V'
  clear a0 a1 a2 a3 a4 ne
  have hs1e : w.heap.size < v1d.heap.size := V.out.lt
  have HL1e := Lib.hid (show Laying w p T N nw st w.heap.size (upd (upd (upd (upd (upd (upd (headW) (nodeN T 1 2) 6) (nodeN T 1 4) 2) (nodeN T 1 5) 5) (nodeN T 2 2) 4) (nodeN T 2 4) 3) (nodeN T 2 5) 4) v1d from V.out)
  clear V HL0e hs0e
  rw [rounds_succ]
  have x0 := tree_ix2
  go_wp2_with fail
  clear x0
  obtain ⟨v2a, hv⟩ : ∃ v, v = v1d.alloc (.cells #[.int .i64 3, .bool true, .int .i64 1, .int .i64 0, .int .i64 0] 79) := ⟨_, rfl⟩
  rw [← hv]
  have V := Lib.hid (show Laying w p T N nw st w.heap.size (upd (upd (upd (upd (upd (upd (headW) (nodeN T 1 2) 6) (nodeN T 1 4) 2) (nodeN T 1 5) 5) (nodeN T 2 2) 4) (nodeN T 2 4) 3) (nodeN T 2 5) 4) v2a by rw [hv]; exact HL1e.out.alloc _)
  have a0 : v2a.cell? ⟨v1d.heap.size, 0, none⟩ = some (.int .i64 3) := by rw [hv]; simp
  have a1 : v2a.cell? ⟨v1d.heap.size, 1, none⟩ = some (.bool true) := by rw [hv]; simp
  have a2 : v2a.cell? ⟨v1d.heap.size, 2, none⟩ = some (.int .i64 1) := by rw [hv]; simp
  have a3 : v2a.cell? ⟨v1d.heap.size, 3, none⟩ = some (.int .i64 0) := by rw [hv]; simp
  have a4 : v2a.cell? ⟨v1d.heap.size, 4, none⟩ = some (.int .i64 0) := by rw [hv]; simp
  clear hv
  have ne := Nat.ne_of_lt hs1e
  have hlt := HT5.out 3 2 (by omega) (by omega) (by omega)
  have hltI : ((nodeN T 3 2 : Nat) : Int) < nw := by omega
  have d := V.out.cells.cell (nodeN T 3 2) hlt
  have g := V.out.cells.frozen (nodeN T 3 2)
  go_still_tail 11, (by kernel_rfl)
  repeat (first | still_call ((plan_NodeN (by first | exact V.out.plan | exact V.out.drew.plan) hT hN 3 2 rfl rfl (by omega) (by omega) (by omega)).mono fun _ _ ⟨a, b⟩ => ⟨a, b.symm⟩) | still_call ((order_Info true 1 (by omega) _).mono fun _ _ ⟨a, b⟩ => ⟨a, b.symm⟩) | still_step)
  refine wpStill_nil ?_
  go_wp2_with fail
  obtain ⟨v2b, hv⟩ : ∃ v, v = (v2a.setCell ⟨w.heap.size, nodeN T 3 2, none⟩ (.int .u64 3)).drew := ⟨_, rfl⟩
  rw [← hv]
  have V' := Lib.hid (show Laying w p T N nw st w.heap.size (upd (upd (upd (upd (upd (upd (upd (headW) (nodeN T 1 2) 6) (nodeN T 1 4) 2) (nodeN T 1 5) 5) (nodeN T 2 2) 4) (nodeN T 2 4) 3) (nodeN T 2 5) 4) (nodeN T 3 2) 3) v2b by rw [hv]; exact (V.out.set (Nat.le_refl _) hpz _ _).drew)
  replace a0 : v2b.cell? ⟨v1d.heap.size, 0, none⟩ = some (.int .i64 3) := by rw [hv]; exact (World.cell?_setCell_other _ _ _ _ (fun h => ne (congrArg Addr.block h))).trans a0
  replace a1 : v2b.cell? ⟨v1d.heap.size, 1, none⟩ = some (.bool true) := by rw [hv]; exact (World.cell?_setCell_other _ _ _ _ (fun h => ne (congrArg Addr.block h))).trans a1
  replace a2 : v2b.cell? ⟨v1d.heap.size, 2, none⟩ = some (.int .i64 1) := by rw [hv]; exact (World.cell?_setCell_other _ _ _ _ (fun h => ne (congrArg Addr.block h))).trans a2
  replace a3 : v2b.cell? ⟨v1d.heap.size, 3, none⟩ = some (.int .i64 0) := by rw [hv]; exact (World.cell?_setCell_other _ _ _ _ (fun h => ne (congrArg Addr.block h))).trans a3
  replace a4 : v2b.cell? ⟨v1d.heap.size, 4, none⟩ = some (.int .i64 0) := by rw [hv]; exact (World.cell?_setCell_other _ _ _ _ (fun h => ne (congrArg Addr.block h))).trans a4
  clear hv V d g hlt hltI
  have V := V'
  clear V'
  have hlt := HT5.out 3 4 (by omega) (by omega) (by omega)
  have hltI : ((nodeN T 3 4 : Nat) : Int) < nw := by omega
  have d := V.out.cells.cell (nodeN T 3 4) hlt
  have g := V.out.cells.frozen (nodeN T 3 4)
  go_still_tail 9, (by kernel_rfl)
  repeat (first | still_call ((plan_NodeN (by first | exact V.out.plan | exact V.out.drew.plan) hT hN 3 4 rfl rfl (by omega) (by omega) (by omega)).mono fun _ _ ⟨a, b⟩ => ⟨a, b.symm⟩) | still_call ((edge_Make 0 0 _ (by omega) (by omega)).mono fun _ _ ⟨a, b⟩ => ⟨a, b.symm⟩) | still_step)
  refine wpStill_nil ?_
  go_wp2_with fail
  obtain ⟨v2c, hv⟩ : ∃ v, v = (v2b.setCell ⟨w.heap.size, nodeN T 3 4, none⟩ (.int .u64 0)).drew := ⟨_, rfl⟩
  rw [← hv]
  have V' := Lib.hid (show Laying w p T N nw st w.heap.size (upd (upd (upd (upd (upd (upd (upd (upd (headW) (nodeN T 1 2) 6) (nodeN T 1 4) 2) (nodeN T 1 5) 5) (nodeN T 2 2) 4) (nodeN T 2 4) 3) (nodeN T 2 5) 4) (nodeN T 3 2) 3) (nodeN T 3 4) 0) v2c by rw [hv]; exact (V.out.set (Nat.le_refl _) hpz _ _).drew)
  replace a0 : v2c.cell? ⟨v1d.heap.size, 0, none⟩ = some (.int .i64 3) := by rw [hv]; exact (World.cell?_setCell_other _ _ _ _ (fun h => ne (congrArg Addr.block h))).trans a0
  replace a1 : v2c.cell? ⟨v1d.heap.size, 1, none⟩ = some (.bool true) := by rw [hv]; exact (World.cell?_setCell_other _ _ _ _ (fun h => ne (congrArg Addr.block h))).trans a1
  replace a2 : v2c.cell? ⟨v1d.heap.size, 2, none⟩ = some (.int .i64 1) := by rw [hv]; exact (World.cell?_setCell_other _ _ _ _ (fun h => ne (congrArg Addr.block h))).trans a2
  replace a3 : v2c.cell? ⟨v1d.heap.size, 3, none⟩ = some (.int .i64 0) := by rw [hv]; exact (World.cell?_setCell_other _ _ _ _ (fun h => ne (congrArg Addr.block h))).trans a3
  replace a4 : v2c.cell? ⟨v1d.heap.size, 4, none⟩ = some (.int .i64 0) := by rw [hv]; exact (World.cell?_setCell_other _ _ _ _ (fun h => ne (congrArg Addr.block h))).trans a4
  clear hv V d g hlt hltI
  have V := V'
  clear V'
  have hlt := HT5.out 3 5 (by omega) (by omega) (by omega)
  have hltI : ((nodeN T 3 5 : Nat) : Int) < nw := by omega
  have d := V.out.cells.cell (nodeN T 3 5) hlt
  have g := V.out.cells.frozen (nodeN T 3 5)
  go_still_tail 9, (by kernel_rfl)
  repeat (first | still_call ((plan_NodeN (by first | exact V.out.plan | exact V.out.drew.plan) hT hN 3 5 rfl rfl (by omega) (by omega) (by omega)).mono fun _ _ ⟨a, b⟩ => ⟨a, b.symm⟩) | still_call ((edge_Make 0 0 _ (by omega) (by omega)).mono fun _ _ ⟨a, b⟩ => ⟨a, b.symm⟩) | still_step)
  refine wpStill_nil ?_
  go_wp2_with fail
  obtain ⟨v2d, hv⟩ : ∃ v, v = (v2c.setCell ⟨w.heap.size, nodeN T 3 5, none⟩ (.int .u64 0)).drew := ⟨_, rfl⟩
  rw [← hv]
  have V' := Lib.hid (show Laying w p T N nw st w.heap.size (upd (upd (upd (upd (upd (upd (upd (upd (upd (headW) (nodeN T 1 2) 6) (nodeN T 1 4) 2) (nodeN T 1 5) 5) (nodeN T 2 2) 4) (nodeN T 2 4) 3) (nodeN T 2 5) 4) (nodeN T 3 2) 3) (nodeN T 3 4) 0) (nodeN T 3 5) 0) v2d by rw [hv]; exact (V.out.set (Nat.le_refl _) hpz _ _).drew)
  replace a0 : v2d.cell? ⟨v1d.heap.size, 0, none⟩ = some (.int .i64 3) := by rw [hv]; exact (World.cell?_setCell_other _ _ _ _ (fun h => ne (congrArg Addr.block h))).trans a0
  replace a1 : v2d.cell? ⟨v1d.heap.size, 1, none⟩ = some (.bool true) := by rw [hv]; exact (World.cell?_setCell_other _ _ _ _ (fun h => ne (congrArg Addr.block h))).trans a1
  replace a2 : v2d.cell? ⟨v1d.heap.size, 2, none⟩ = some (.int .i64 1) := by rw [hv]; exact (World.cell?_setCell_other _ _ _ _ (fun h => ne (congrArg Addr.block h))).trans a2
  replace a3 : v2d.cell? ⟨v1d.heap.size, 3, none⟩ = some (.int .i64 0) := by rw [hv]; exact (World.cell?_setCell_other _ _ _ _ (fun h => ne (congrArg Addr.block h))).trans a3
  replace a4 : v2d.cell? ⟨v1d.heap.size, 4, none⟩ = some (.int .i64 0) := by rw [hv]; exact (World.cell?_setCell_other _ _ _ _ (fun h => ne (congrArg Addr.block h))).trans a4
  clear hv V d g hlt hltI
  have V := V'
  clear V'
  clear a0 a1 a2 a3 a4 ne
  have hs2e : w.heap.size < v2d.heap.size := V.out.lt
  have HL2e := Lib.hid (show Laying w p T N nw st w.heap.size (upd (upd (upd (upd (upd (upd (upd (upd (upd (headW) (nodeN T 1 2) 6) (nodeN T 1 4) 2) (nodeN T 1 5) 5) (nodeN T 2 2) 4) (nodeN T 2 4) 3) (nodeN T 2 5) 4) (nodeN T 3 2) 3) (nodeN T 3 4) 0) (nodeN T 3 5) 0) v2d from V.out)
  clear V HL1e hs1e
  rw [rounds_succ]
  have x0 := tree_ix3
  go_wp2_with fail
  clear x0
  obtain ⟨v3a, hv⟩ : ∃ v, v = v2d.alloc (.cells #[.int .i64 4, .bool true, .int .i64 2, .int .i64 0, .int .i64 0] 79) := ⟨_, rfl⟩
  rw [← hv]
  have V := Lib.hid (show Laying w p T N nw st w.heap.size (upd (upd (upd (upd (upd (upd (upd (upd (upd (headW) (nodeN T 1 2) 6) (nodeN T 1 4) 2) (nodeN T 1 5) 5) (nodeN T 2 2) 4) (nodeN T 2 4) 3) (nodeN T 2 5) 4) (nodeN T 3 2) 3) (nodeN T 3 4) 0) (nodeN T 3 5) 0) v3a by rw [hv]; exact HL2e.out.alloc _)
  have a0 : v3a.cell? ⟨v2d.heap.size, 0, none⟩ = some (.int .i64 4) := by rw [hv]; simp
  have a1 : v3a.cell? ⟨v2d.heap.size, 1, none⟩ = some (.bool true) := by rw [hv]; simp
  have a2 : v3a.cell? ⟨v2d.heap.size, 2, none⟩ = some (.int .i64 2) := by rw [hv]; simp
  have a3 : v3a.cell? ⟨v2d.heap.size, 3, none⟩ = some (.int .i64 0) := by rw [hv]; simp
  have a4 : v3a.cell? ⟨v2d.heap.size, 4, none⟩ = some (.int .i64 0) := by rw [hv]; simp
  clear hv
  have ne := Nat.ne_of_lt hs2e
  have hlt := HT5.out 4 2 (by omega) (by omega) (by omega)
  have hltI : ((nodeN T 4 2 : Nat) : Int) < nw := by omega
  have d := V.out.cells.cell (nodeN T 4 2) hlt
  have g := V.out.cells.frozen (nodeN T 4 2)
  go_still_tail 11, (by kernel_rfl)
  repeat (first | still_call ((plan_NodeN (by first | exact V.out.plan | exact V.out.drew.plan) hT hN 4 2 rfl rfl (by omega) (by omega) (by omega)).mono fun _ _ ⟨a, b⟩ => ⟨a, b.symm⟩) | still_call ((order_Info true 2 (by omega) _).mono fun _ _ ⟨a, b⟩ => ⟨a, b.symm⟩) | still_step)
  refine wpStill_nil ?_
  go_wp2_with fail
  obtain ⟨v3b, hv⟩ : ∃ v, v = (v3a.setCell ⟨w.heap.size, nodeN T 4 2, none⟩ (.int .u64 5)).drew := ⟨_, rfl⟩
  rw [← hv]
  have V' := Lib.hid (show Laying w p T N nw st w.heap.size (upd (upd (upd (upd (upd (upd (upd (upd (upd (upd (headW) (nodeN T 1 2) 6) (nodeN T 1 4) 2) (nodeN T 1 5) 5) (nodeN T 2 2) 4) (nodeN T 2 4) 3) (nodeN T 2 5) 4) (nodeN T 3 2) 3) (nodeN T 3 4) 0) (nodeN T 3 5) 0) (nodeN T 4 2) 5) v3b by rw [hv]; exact (V.out.set (Nat.le_refl _) hpz _ _).drew)
  replace a0 : v3b.cell? ⟨v2d.heap.size, 0, none⟩ = some (.int .i64 4) := by rw [hv]; exact (World.cell?_setCell_other _ _ _ _ (fun h => ne (congrArg Addr.block h))).trans a0
  replace a1 : v3b.cell? ⟨v2d.heap.size, 1, none⟩ = some (.bool true) := by rw [hv]; exact (World.cell?_setCell_other _ _ _ _ (fun h => ne (congrArg Addr.block h))).trans a1
  replace a2 : v3b.cell? ⟨v2d.heap.size, 2, none⟩ = some (.int .i64 2) := by rw [hv]; exact (World.cell?_setCell_other _ _ _ _ (fun h => ne (congrArg Addr.block h))).trans a2
  replace a3 : v3b.cell? ⟨v2d.heap.size, 3, none⟩ = some (.int .i64 0) := by rw [hv]; exact (World.cell?_setCell_other _ _ _ _ (fun h => ne (congrArg Addr.block h))).trans a3
  replace a4 : v3b.cell? ⟨v2d.heap.size, 4, none⟩ = some (.int .i64 0) := by rw [hv]; exact (World.cell?_setCell_other _ _ _ _ (fun h => ne (congrArg Addr.block h))).trans a4
  clear hv V d g hlt hltI
  have V := V'
  clear V'
  have hlt := HT5.out 4 4 (by omega) (by omega) (by omega)
  have hltI : ((nodeN T 4 4 : Nat) : Int) < nw := by omega
  have d := V.out.cells.cell (nodeN T 4 4) hlt
  have g := V.out.cells.frozen (nodeN T 4 4)
  go_still_tail 9, (by kernel_rfl)
  repeat (first | still_call ((plan_NodeN (by first | exact V.out.plan | exact V.out.drew.plan) hT hN 4 4 rfl rfl (by omega) (by omega) (by omega)).mono fun _ _ ⟨a, b⟩ => ⟨a, b.symm⟩) | still_call ((edge_Make 0 0 _ (by omega) (by omega)).mono fun _ _ ⟨a, b⟩ => ⟨a, b.symm⟩) | still_step)
  refine wpStill_nil ?_
  go_wp2_with fail
  obtain ⟨v3c, hv⟩ : ∃ v, v = (v3b.setCell ⟨w.heap.size, nodeN T 4 4, none⟩ (.int .u64 0)).drew := ⟨_, rfl⟩
  rw [← hv]
  have V' := Lib.hid (show Laying w p T N nw st w.heap.size (upd (upd (upd (upd (upd (upd (upd (upd (upd (upd (upd (headW) (nodeN T 1 2) 6) (nodeN T 1 4) 2) (nodeN T 1 5) 5) (nodeN T 2 2) 4) (nodeN T 2 4) 3) (nodeN T 2 5) 4) (nodeN T 3 2) 3) (nodeN T 3 4) 0) (nodeN T 3 5) 0) (nodeN T 4 2) 5) (nodeN T 4 4) 0) v3c by rw [hv]; exact (V.out.set (Nat.le_refl _) hpz _ _).drew)
  replace a0 : v3c.cell? ⟨v2d.heap.size, 0, none⟩ = some (.int .i64 4) := by rw [hv]; exact (World.cell?_setCell_other _ _ _ _ (fun h => ne (congrArg Addr.block h))).trans a0
  replace a1 : v3c.cell? ⟨v2d.heap.size, 1, none⟩ = some (.bool true) := by rw [hv]; exact (World.cell?_setCell_other _ _ _ _ (fun h => ne (congrArg Addr.block h))).trans a1
  replace a2 : v3c.cell? ⟨v2d.heap.size, 2, none⟩ = some (.int .i64 2) := by rw [hv]; exact (World.cell?_setCell_other _ _ _ _ (fun h => ne (congrArg Addr.block h))).trans a2
  replace a3 : v3c.cell? ⟨v2d.heap.size, 3, none⟩ = some (.int .i64 0) := by rw [hv]; exact (World.cell?_setCell_other _ _ _ _ (fun h => ne (congrArg Addr.block h))).trans a3
  replace a4 : v3c.cell? ⟨v2d.heap.size, 4, none⟩ = some (.int .i64 0) := by rw [hv]; exact (World.cell?_setCell_other _ _ _ _ (fun h => ne (congrArg Addr.block h))).trans a4
  clear hv V d g hlt hltI
  have V := V'
  clear V'
  have hlt := HT5.out 4 5 (by omega) (by omega) (by omega)
  have hltI : ((nodeN T 4 5 : Nat) : Int) < nw := by omega
  have d := V.out.cells.cell (nodeN T 4 5) hlt
  have g := V.out.cells.frozen (nodeN T 4 5)
  go_still_tail 9, (by kernel_rfl)
  repeat (first | still_call ((plan_NodeN (by first | exact V.out.plan | exact V.out.drew.plan) hT hN 4 5 rfl rfl (by omega) (by omega) (by omega)).mono fun _ _ ⟨a, b⟩ => ⟨a, b.symm⟩) | still_call ((edge_Make 0 0 _ (by omega) (by omega)).mono fun _ _ ⟨a, b⟩ => ⟨a, b.symm⟩) | still_step)
  refine wpStill_nil ?_
  go_wp2_with fail
  obtain ⟨v3d, hv⟩ : ∃ v, v = (v3c.setCell ⟨w.heap.size, nodeN T 4 5, none⟩ (.int .u64 0)).drew := ⟨_, rfl⟩
  rw [← hv]
  have V' := Lib.hid (show Laying w p T N nw st w.heap.size (upd (upd (upd (upd (upd (upd (upd (upd (upd (upd (upd (upd (headW) (nodeN T 1 2) 6) (nodeN T 1 4) 2) (nodeN T 1 5) 5) (nodeN T 2 2) 4) (nodeN T 2 4) 3) (nodeN T 2 5) 4) (nodeN T 3 2) 3) (nodeN T 3 4) 0) (nodeN T 3 5) 0) (nodeN T 4 2) 5) (nodeN T 4 4) 0) (nodeN T 4 5) 0) v3d by rw [hv]; exact (V.out.set (Nat.le_refl _) hpz _ _).drew)
  replace a0 : v3d.cell? ⟨v2d.heap.size, 0, none⟩ = some (.int .i64 4) := by rw [hv]; exact (World.cell?_setCell_other _ _ _ _ (fun h => ne (congrArg Addr.block h))).trans a0
  replace a1 : v3d.cell? ⟨v2d.heap.size, 1, none⟩ = some (.bool true) := by rw [hv]; exact (World.cell?_setCell_other _ _ _ _ (fun h => ne (congrArg Addr.block h))).trans a1
  replace a2 : v3d.cell? ⟨v2d.heap.size, 2, none⟩ = some (.int .i64 2) := by rw [hv]; exact (World.cell?_setCell_other _ _ _ _ (fun h => ne (congrArg Addr.block h))).trans a2
  replace a3 : v3d.cell? ⟨v2d.heap.size, 3, none⟩ = some (.int .i64 0) := by rw [hv]; exact (World.cell?_setCell_other _ _ _ _ (fun h => ne (congrArg Addr.block h))).trans a3
  replace a4 : v3d.cell? ⟨v2d.heap.size, 4, none⟩ = some (.int .i64 0) := by rw [hv]; exact (World.cell?_setCell_other _ _ _ _ (fun h => ne (congrArg Addr.block h))).trans a4
  clear hv V d g hlt hltI
  have V := V'
  clear V'
  clear a0 a1 a2 a3 a4 ne
  have hs3e : w.heap.size < v3d.heap.size := V.out.lt
  have HL3e := Lib.hid (show Laying w p T N nw st w.heap.size (upd (upd (upd (upd (upd (upd (upd (upd (upd (upd (upd (upd (headW) (nodeN T 1 2) 6) (nodeN T 1 4) 2) (nodeN T 1 5) 5) (nodeN T 2 2) 4) (nodeN T 2 4) 3) (nodeN T 2 5) 4) (nodeN T 3 2) 3) (nodeN T 3 4) 0) (nodeN T 3 5) 0) (nodeN T 4 2) 5) (nodeN T 4 4) 0) (nodeN T 4 5) 0) v3d from V.out)
  clear V HL2e hs2e
  rw [rounds_succ]
  have x0 := tree_ix4
  go_wp2_with fail
  clear x0
  obtain ⟨v4a, hv⟩ : ∃ v, v = v3d.alloc (.cells #[.int .i64 5, .bool true, .int .i64 3, .int .i64 0, .int .i64 0] 79) := ⟨_, rfl⟩
  rw [← hv]
  have V := Lib.hid (show Laying w p T N nw st w.heap.size (upd (upd (upd (upd (upd (upd (upd (upd (upd (upd (upd (upd (headW) (nodeN T 1 2) 6) (nodeN T 1 4) 2) (nodeN T 1 5) 5) (nodeN T 2 2) 4) (nodeN T 2 4) 3) (nodeN T 2 5) 4) (nodeN T 3 2) 3) (nodeN T 3 4) 0) (nodeN T 3 5) 0) (nodeN T 4 2) 5) (nodeN T 4 4) 0) (nodeN T 4 5) 0) v4a by rw [hv]; exact HL3e.out.alloc _)
  have a0 : v4a.cell? ⟨v3d.heap.size, 0, none⟩ = some (.int .i64 5) := by rw [hv]; simp
  have a1 : v4a.cell? ⟨v3d.heap.size, 1, none⟩ = some (.bool true) := by rw [hv]; simp
  have a2 : v4a.cell? ⟨v3d.heap.size, 2, none⟩ = some (.int .i64 3) := by rw [hv]; simp
  have a3 : v4a.cell? ⟨v3d.heap.size, 3, none⟩ = some (.int .i64 0) := by rw [hv]; simp
  have a4 : v4a.cell? ⟨v3d.heap.size, 4, none⟩ = some (.int .i64 0) := by rw [hv]; simp
  clear hv
  have ne := Nat.ne_of_lt hs3e
  have hlt := HT5.out 5 2 (by omega) (by omega) (by omega)
  have hltI : ((nodeN T 5 2 : Nat) : Int) < nw := by omega
  have d := V.out.cells.cell (nodeN T 5 2) hlt
  have g := V.out.cells.frozen (nodeN T 5 2)
  go_still_tail 11, (by kernel_rfl)
  repeat (first | still_call ((plan_NodeN (by first | exact V.out.plan | exact V.out.drew.plan) hT hN 5 2 rfl rfl (by omega) (by omega) (by omega)).mono fun _ _ ⟨a, b⟩ => ⟨a, b.symm⟩) | still_call ((order_Info true 3 (by omega) _).mono fun _ _ ⟨a, b⟩ => ⟨a, b.symm⟩) | still_step)
  refine wpStill_nil ?_
  go_wp2_with fail
  obtain ⟨v4b, hv⟩ : ∃ v, v = (v4a.setCell ⟨w.heap.size, nodeN T 5 2, none⟩ (.int .u64 7)).drew := ⟨_, rfl⟩
  rw [← hv]
  have V' := Lib.hid (show Laying w p T N nw st w.heap.size (upd (upd (upd (upd (upd (upd (upd (upd (upd (upd (upd (upd (upd (headW) (nodeN T 1 2) 6) (nodeN T 1 4) 2) (nodeN T 1 5) 5) (nodeN T 2 2) 4) (nodeN T 2 4) 3) (nodeN T 2 5) 4) (nodeN T 3 2) 3) (nodeN T 3 4) 0) (nodeN T 3 5) 0) (nodeN T 4 2) 5) (nodeN T 4 4) 0) (nodeN T 4 5) 0) (nodeN T 5 2) 7) v4b by rw [hv]; exact (V.out.set (Nat.le_refl _) hpz _ _).drew)
  replace a0 : v4b.cell? ⟨v3d.heap.size, 0, none⟩ = some (.int .i64 5) := by rw [hv]; exact (World.cell?_setCell_other _ _ _ _ (fun h => ne (congrArg Addr.block h))).trans a0
  replace a1 : v4b.cell? ⟨v3d.heap.size, 1, none⟩ = some (.bool true) := by rw [hv]; exact (World.cell?_setCell_other _ _ _ _ (fun h => ne (congrArg Addr.block h))).trans a1
  replace a2 : v4b.cell? ⟨v3d.heap.size, 2, none⟩ = some (.int .i64 3) := by rw [hv]; exact (World.cell?_setCell_other _ _ _ _ (fun h => ne (congrArg Addr.block h))).trans a2
  replace a3 : v4b.cell? ⟨v3d.heap.size, 3, none⟩ = some (.int .i64 0) := by rw [hv]; exact (World.cell?_setCell_other _ _ _ _ (fun h => ne (congrArg Addr.block h))).trans a3
  replace a4 : v4b.cell? ⟨v3d.heap.size, 4, none⟩ = some (.int .i64 0) := by rw [hv]; exact (World.cell?_setCell_other _ _ _ _ (fun h => ne (congrArg Addr.block h))).trans a4
  clear hv V d g hlt hltI
  have V := V'
  clear V'
  have hlt := HT5.out 5 4 (by omega) (by omega) (by omega)
  have hltI : ((nodeN T 5 4 : Nat) : Int) < nw := by omega
  have d := V.out.cells.cell (nodeN T 5 4) hlt
  have g := V.out.cells.frozen (nodeN T 5 4)
  go_still_tail 9, (by kernel_rfl)
  repeat (first | still_call ((plan_NodeN (by first | exact V.out.plan | exact V.out.drew.plan) hT hN 5 4 rfl rfl (by omega) (by omega) (by omega)).mono fun _ _ ⟨a, b⟩ => ⟨a, b.symm⟩) | still_call ((edge_Make 0 0 _ (by omega) (by omega)).mono fun _ _ ⟨a, b⟩ => ⟨a, b.symm⟩) | still_step)
  refine wpStill_nil ?_
  go_wp2_with fail
  obtain ⟨v4c, hv⟩ : ∃ v, v = (v4b.setCell ⟨w.heap.size, nodeN T 5 4, none⟩ (.int .u64 0)).drew := ⟨_, rfl⟩
  rw [← hv]
  have V' := Lib.hid (show Laying w p T N nw st w.heap.size (upd (upd (upd (upd (upd (upd (upd (upd (upd (upd (upd (upd (upd (upd (headW) (nodeN T 1 2) 6) (nodeN T 1 4) 2) (nodeN T 1 5) 5) (nodeN T 2 2) 4) (nodeN T 2 4) 3) (nodeN T 2 5) 4) (nodeN T 3 2) 3) (nodeN T 3 4) 0) (nodeN T 3 5) 0) (nodeN T 4 2) 5) (nodeN T 4 4) 0) (nodeN T 4 5) 0) (nodeN T 5 2) 7) (nodeN T 5 4) 0) v4c by rw [hv]; exact (V.out.set (Nat.le_refl _) hpz _ _).drew)
  replace a0 : v4c.cell? ⟨v3d.heap.size, 0, none⟩ = some (.int .i64 5) := by rw [hv]; exact (World.cell?_setCell_other _ _ _ _ (fun h => ne (congrArg Addr.block h))).trans a0
  replace a1 : v4c.cell? ⟨v3d.heap.size, 1, none⟩ = some (.bool true) := by rw [hv]; exact (World.cell?_setCell_other _ _ _ _ (fun h => ne (congrArg Addr.block h))).trans a1
  replace a2 : v4c.cell? ⟨v3d.heap.size, 2, none⟩ = some (.int .i64 3) := by rw [hv]; exact (World.cell?_setCell_other _ _ _ _ (fun h => ne (congrArg Addr.block h))).trans a2
  replace a3 : v4c.cell? ⟨v3d.heap.size, 3, none⟩ = some (.int .i64 0) := by rw [hv]; exact (World.cell?_setCell_other _ _ _ _ (fun h => ne (congrArg Addr.block h))).trans a3
  replace a4 : v4c.cell? ⟨v3d.heap.size, 4, none⟩ = some (.int .i64 0) := by rw [hv]; exact (World.cell?_setCell_other _ _ _ _ (fun h => ne (congrArg Addr.block h))).trans a4
  clear hv V d g hlt hltI
  have V := V'
  clear V'
  have hlt := HT5.out 5 5 (by omega) (by omega) (by omega)
  have hltI : ((nodeN T 5 5 : Nat) : Int) < nw := by omega
  have d := V.out.cells.cell (nodeN T 5 5) hlt
  have g := V.out.cells.frozen (nodeN T 5 5)
  go_still_tail 9, (by kernel_rfl)
  repeat (first | still_call ((plan_NodeN (by first | exact V.out.plan | exact V.out.drew.plan) hT hN 5 5 rfl rfl (by omega) (by omega) (by omega)).mono fun _ _ ⟨a, b⟩ => ⟨a, b.symm⟩) | still_call ((edge_Make 0 0 _ (by omega) (by omega)).mono fun _ _ ⟨a, b⟩ => ⟨a, b.symm⟩) | still_step)
  refine wpStill_nil ?_
  go_wp2_with fail
  obtain ⟨v4d, hv⟩ : ∃ v, v = (v4c.setCell ⟨w.heap.size, nodeN T 5 5, none⟩ (.int .u64 0)).drew := ⟨_, rfl⟩
  rw [← hv]
  have V' := Lib.hid (show Laying w p T N nw st w.heap.size (upd (upd (upd (upd (upd (upd (upd (upd (upd (upd (upd (upd (upd (upd (upd (headW) (nodeN T 1 2) 6) (nodeN T 1 4) 2) (nodeN T 1 5) 5) (nodeN T 2 2) 4) (nodeN T 2 4) 3) (nodeN T 2 5) 4) (nodeN T 3 2) 3) (nodeN T 3 4) 0) (nodeN T 3 5) 0) (nodeN T 4 2) 5) (nodeN T 4 4) 0) (nodeN T 4 5) 0) (nodeN T 5 2) 7) (nodeN T 5 4) 0) (nodeN T 5 5) 0) v4d by rw [hv]; exact (V.out.set (Nat.le_refl _) hpz _ _).drew)
  replace a0 : v4d.cell? ⟨v3d.heap.size, 0, none⟩ = some (.int .i64 5) := by rw [hv]; exact (World.cell?_setCell_other _ _ _ _ (fun h => ne (congrArg Addr.block h))).trans a0
  replace a1 : v4d.cell? ⟨v3d.heap.size, 1, none⟩ = some (.bool true) := by rw [hv]; exact (World.cell?_setCell_other _ _ _ _ (fun h => ne (congrArg Addr.block h))).trans a1
  replace a2 : v4d.cell? ⟨v3d.heap.size, 2, none⟩ = some (.int .i64 3) := by rw [hv]; exact (World.cell?_setCell_other _ _ _ _ (fun h => ne (congrArg Addr.block h))).trans a2
  replace a3 : v4d.cell? ⟨v3d.heap.size, 3, none⟩ = some (.int .i64 0) := by rw [hv]; exact (World.cell?_setCell_other _ _ _ _ (fun h => ne (congrArg Addr.block h))).trans a3
  replace a4 : v4d.cell? ⟨v3d.heap.size, 4, none⟩ = some (.int .i64 0) := by rw [hv]; exact (World.cell?_setCell_other _ _ _ _ (fun h => ne (congrArg Addr.block h))).trans a4
  clear hv V d g hlt hltI
  have V := V'
  clear V'
  clear a0 a1 a2 a3 a4 ne
  have hs4e : w.heap.size < v4d.heap.size := V.out.lt
  have HL4e := Lib.hid (show Laying w p T N nw st w.heap.size (upd (upd (upd (upd (upd (upd (upd (upd (upd (upd (upd (upd (upd (upd (upd (headW) (nodeN T 1 2) 6) (nodeN T 1 4) 2) (nodeN T 1 5) 5) (nodeN T 2 2) 4) (nodeN T 2 4) 3) (nodeN T 2 5) 4) (nodeN T 3 2) 3) (nodeN T 3 4) 0) (nodeN T 3 5) 0) (nodeN T 4 2) 5) (nodeN T 4 4) 0) (nodeN T 4 5) 0) (nodeN T 5 2) 7) (nodeN T 5 4) 0) (nodeN T 5 5) 0) v4d from V.out)
  clear V HL3e hs3e
  rw [rounds_succ]
  go_wp2_with fail
  have HT := Lib.hid (show Laying w p T N nw st w.heap.size (linkW T 6) v4d by rw [linkW_start]; exact HL4e.out)
  clear HL4e
  go_loopw [8] (fun vs W => ∃ k : Nat, vs = .int .i64 k ∧ 6 ≤ k ∧ k ≤ N ∧ Hid (Laying w p T N nw st w.heap.size (linkW T k) W)) (fun vs _ => N - (intOf vs).toNat)
  case atStart => exact ⟨6, rfl, Nat.le_refl _, by omega, HT⟩
  case round =>
    obtain ⟨k, rfl, hk6, hkN, HK⟩ := hrel
    by_cases hk : k < N
    · have hlt := HT5.out k 0 (by omega) (by omega) (by omega)
      have hltI : ((nodeN T k 0 : Nat) : Int) < nw := by omega
      have d := HK.out.cells.cell (nodeN T k 0) hlt
      have g := HK.out.cells.frozen (nodeN T k 0)
      have hkI : (k : Int) < N := by omega
      have e1 : IntKind.i64.wrap ((k : Int) + 1) = (k : Int) + 1 := IntWalk.i64_in _ (by omega)
      have e2 : IntKind.u64.wrap ((k : Int) + 1) = (k : Int) + 1 := IntWalk.u64_in _ (by omega)
      go_wp2_with (go_at_call 52; refine (plan_NodeN HK.out.plan hT hN k 0 rfl rfl (by omega) (by omega) (by omega)).mono ?_; rintro e w' ⟨rfl, rfl⟩)
      go_roundw
      case rel => exact ⟨k + 1, by go_num, by omega, by omega, by rw [linkW_step T k hk6]; exact HK.out.set (Nat.le_refl _) hpz _ _⟩
      case measure => simp [intOf]; omega
    · have hkI : ¬ (k : Int) < N := by omega
      go_wp2
      have : k = N := by omega
      subst this
      go_ret
      exact ⟨w.heap.size, rfl, Nat.le_refl _, HK.out.cells, HK.out.below⟩
end Go.Proofs.Ytjnikgliecgbdaa
