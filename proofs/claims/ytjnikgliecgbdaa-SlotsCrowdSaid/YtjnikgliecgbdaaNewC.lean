/- Contracts of the makers: a thread, a clone, the memory, the guard. -/
import Derived.Test.YtjnikgliecgbdaaNewB
import Derived.Lib.SliceRun
import Derived.Lib.Walk
namespace Go.Proofs.Ytjnikgliecgbdaa
open Go.RowKit

def thrZero : Array Value := #[.int .u64 0, .int .u64 0, .int .u64 0, .int .u64 0, .int .u64 0, .int .u64 0, .int .u64 0, .int .u64 0, .int .u64 0, .int .u64 0, .int .u64 0, .int .u64 0,
  .bool false, .bool false, .bool false, .int .u64 0, .int .u64 0, .int .u64 0, .int .i64 0, .int .i64 0, .int .i64 0, .int .i64 0, .int .i64 0, .int .i64 0, .slice none 0 0, .slice none 0 0, .slice none 0 0]

theorem frame_New (w : World) : Calls Try.prog 26 #[] w fun e w' => e = .returned (.pointer (some ⟨w.heap.size, 0, none⟩)) ∧ w' = w.alloc (.cells thrZero 58) := by
  go_enter Try.func26, Try.ntmps26
  go_wp2
  go_ret
  exact ⟨rfl, rfl⟩

/-- A clone. -/
def Cloned (w : World) (n : Nat) (f : Nat → Int) (e : Ending) (w' : World) : Prop :=
  ∃ b c, e = .returned (.slice (some ⟨b, 0, none⟩) n c) ∧ n ≤ c ∧ w.heap.size ≤ b ∧ b < w'.heap.size ∧ Cells w' b 22 n (fun a => .int .u64 (f a)) ∧ Below w.heap.size w w'

set_option maxRecDepth 100000 in
set_option maxHeartbeats 400000 in
theorem clone_u64 {w : World} {B n c : Nat} {f : Nat → Int} (h : Cells w B 22 n (fun a => .int .u64 (f a))) (hn : 1 ≤ n) (hm : n ≤ 5000) :
    Calls Try.prog 48 #[.slice (some ⟨B, 0, none⟩) n c] w fun e w' => Cloned w n f e w' := by
  obtain ⟨i0, hi, hz0, hz1, hz2⟩ := info_parts info_u64r
  have H := Lib.hid h
  clear h
  have q : ∀ (w : World) (a : Option Addr) (n c n' c' : Nat), (binOp .eql 56 (.slice a n c) (.slice none n' c')).run Try.prog w = .ok (.bool a.isNone) w := fun w a n c n' c' => Lib.run_eql_slice_nil w _ _ a n c n' c' Try.underlying56
  go_enter Try.func48, Try.ntmps48
  go_wp2_with (at_builtin; refine wpList_append_own _ rfl _ _ 56 rfl w.heap.size 22 i0 (.int .u64 0) 1 8 Try.underlying56 hi hz0 hz1 hz2 rfl (by decide) _ _ _ rfl (World.ownsRow_made w #[] 0 (Nat.le_refl _) (Nat.zero_le _) rfl) ⟨B, 0, none⟩ n c ((List.range n).map fun a => Value.int .u64 (f a)) rfl ?qc1 ?qc2 ?qc3 ?qc4 ?qc5 ?qc6 ?_)
  case qc1 => simp
  case qc2 =>
    intro j u hj
    have hjn : j < n := by
      have := (List.getElem?_eq_some_iff.1 hj).1
      simpa using this
    rw [List.getElem?_map, List.getElem?_range hjn] at hj
    simp only [Option.map_some, Option.some.injEq] at hj
    subst hj
    have := (H.out.alloc (.cells #[] 22)).cell j hjn
    rw [Addr.add_lit]
    simpa using this
  case qc3 => intro u hu; obtain ⟨x, _, rfl⟩ := List.mem_map.1 hu; rfl
  case qc4 => unfold maxLen; omega
  case qc5 => omega
  case qc6 => simp
  intro v' w1 hown hgrow hnil
  have hb : Below w.heap.size w w1 := ((Below.refl _ w).alloc (Nat.le_refl _) _).grown hgrow (by simp) (by intro k hk; simp [Value.ownBlock] at hk; omega)
  obtain ⟨hlen, hv⟩ := hown
  rcases hv with ⟨rfl, hn0⟩ | ⟨g, cap, cur, rfl, hg1, hg2, hg3, hg4, hg5, hg6⟩
  · exact absurd rfl hnil
  · go_wp2
    go_ret
    refine ⟨g, cap, by simp, by omega, hg1, (Array.getElem?_eq_some_iff.1 hg2).1, ⟨cur, hg2, by omega, fun j hj => ?_⟩, hb⟩
    have hh := congrArg (fun l : List Value => l[j]?) hg6
    simp only [List.nil_append, List.getElem?_map, List.getElem?_range hj, Option.map_some, List.getElem?_take] at hh
    rw [if_pos (by omega)] at hh
    simpa using hh

/-- The memory that is made. -/
def MemMade (w : World) (n : Nat) (f : Nat → Int) (e : Ending) (w' : World) : Prop :=
  ∃ me b c, e = .returned (.pointer (some ⟨me, 0, none⟩)) ∧ n ≤ c ∧ w.heap.size ≤ b ∧ b < me ∧ me < w'.heap.size ∧ Cells w' b 22 n (fun a => .int .u64 (f a)) ∧
    Cells w' me 106 3 (fun i => match i with | 0 => .slice (some ⟨b, 0, none⟩) n c | 1 => .int .i64 0 | _ => .bool false) ∧ Below w.heap.size w w'

set_option maxHeartbeats 400000 in
theorem mem_Of {w : World} {B n c : Nat} {f : Nat → Int} (h : Cells w B 22 n (fun a => .int .u64 (f a))) (hn : 1 ≤ n) (hm : n ≤ 4096) :
    Calls Try.prog 23 #[.slice (some ⟨B, 0, none⟩) n c] w fun e w' => MemMade w n f e w' := by
  have H := Lib.hid h
  clear h
  have h1 : ¬ (n : Int) < 1 := by omega
  have h2 : ¬ (4096 : Int) < n := by omega
  have h3 : IntKind.i64.wrap (n : Int) = n := IntWalk.i64_in _ (by omega)
  go_enter Try.func23, Try.ntmps23
  go_wp2_with (go_at_call 48; refine (clone_u64 H.out hn (by omega)).mono ?_; rintro e w1 ⟨b, c', rfl, hc1, hc2, hc3, hc4, hc5⟩)
  go_ret
  exact ⟨w1.heap.size, b, c', rfl, hc1, hc2, hc3, by simp, hc4.alloc _, Cells.new w1 _ _ _ _ (by simp) (fun i hi => by match i, hi with | 0, _ | 1, _ | 2, _ => rfl), hc5.alloc hc5.size _⟩

theorem heldIs_new (w : World) : HeldIs (w.alloc (.map #[] 0)) w.heap.size (fun _ => false) 0 :=
  ⟨.map [], World.ownsMap_made w _ _ _, rfl, fun s => ⟨rfl, rfl⟩⟩

/-- The guard that is made. -/
def GuardMade (w : World) (N : Nat) (e : Ending) (w' : World) : Prop :=
  ∃ g gb hb, e = .returned (.pointer (some ⟨g, 0, none⟩)) ∧ w.heap.size ≤ gb ∧ gb < hb ∧ hb < g ∧ g < w'.heap.size ∧ Cells w' gb 22 (N + 1) (fun _ => .int .u64 0) ∧ HeldIs w' hb (fun _ => false) 0 ∧
    Cells w' g 97 3 (fun i => match i with | 0 => .slice (some ⟨gb, 0, none⟩) (N + 1) (N + 1) | 1 => .map (some hb) | _ => .int .i64 0) ∧ Below w.heap.size w w'

set_option maxRecDepth 100000 in
set_option maxHeartbeats 400000 in
theorem guard_New (w : World) (N : Nat) (h1 : 1 ≤ N) (h2 : N ≤ 250) :
    Calls Try.prog 25 #[.int .i64 N] w fun e w' => GuardMade w N e w' := by
  obtain ⟨i0, hi, hz0, hz1, hz2⟩ := info_parts info_u64r
  have h1' : ¬ (N : Int) < 1 := by omega
  have h2' : ¬ (250 : Int) < N := by omega
  have h3 : IntKind.i64.wrap ((N : Int) + 1) = N + 1 := IntWalk.i64_in _ (by omega)
  have hmm : ∀ w, (Instr.makeMap 95 none).run Try.prog w = .ok (.map (some w.heap.size)) (w.alloc (.map #[] 0)) := fun w => run_makeMap _ w
  go_enter Try.func25, Try.ntmps25
  go_wp2_with (at_make; refine wpList_make_full _ rfl (.tmp 10) (.tmp 10) 56 rfl 0 22 i0 (.int .u64 0) 1 Try.underlying56 hi hz0 hz1 .i64 .i64 (N + 1) (N + 1) (N + 1) rfl rfl (by push_cast; rfl) (by push_cast; rfl) (by rw [hz2]; omega) (by unfold maxLen; omega) (Nat.zero_le _) ?hk)
  case hk =>
  intro w1 hown hgrow
  have hc : Cells w1 w.heap.size 22 (N + 1) (fun _ => .int .u64 0) ∧ w.heap.size < w1.heap.size := by
    rcases hown.2 with ⟨e, _⟩ | ⟨g, cap, cur, hv, _, hg, _, _, hs, hx⟩
    · cases e
    · simp only [Value.slice.injEq, Option.some.injEq, Addr.mk.injEq, and_true] at hv
      obtain ⟨rfl, _, rfl⟩ := hv
      refine ⟨⟨cur, hg, by omega, fun j hj => ?_⟩, (Array.getElem?_eq_some_iff.1 hg).1⟩
      have hh := congrArg (fun l : List Value => l[j]?) hx
      simp only [toList_madeCells_one, List.getElem?_replicate, if_pos hj, Nat.mul_one, List.getElem?_take] at hh
      simpa using hh
  have hb : Below w.heap.size w w1 := (Below.refl _ w).grown hgrow (by omega) (fun k h => by cases h)
  have HC := Lib.hid hc
  have HB := Lib.hid hb
  clear hown hgrow hc hb
  go_wp2
  go_ret
  have hlt := HC.out.2
  refine ⟨w1.heap.size + 1, w.heap.size, w1.heap.size, rfl, Nat.le_refl _, hlt, by omega, by simp, (HC.out.1.alloc _).alloc _, (heldIs_new w1).congr ?_, ?_, (HB.out.alloc (by omega) _).alloc (by simp; omega) _⟩
  · exact Below.heap_alloc _ _ _ (by simp)
  · have := Cells.new (w1.alloc (.map #[] 0)) #[.slice (some ⟨w.heap.size, 0, none⟩) (N + 1) (N + 1), .map (some w1.heap.size), .int .i64 0] 97 3 (fun i => match i with | 0 => .slice (some ⟨w.heap.size, 0, none⟩) (N + 1) (N + 1) | 1 => .map (some w1.heap.size) | _ => .int .i64 0) (by simp) (fun i hi => by match i, hi with | 0, _ | 1, _ | 2, _ => rfl)
    simpa using this
end Go.Proofs.Ytjnikgliecgbdaa
