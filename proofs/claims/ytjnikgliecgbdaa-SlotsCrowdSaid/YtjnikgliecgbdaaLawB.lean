/- Contract of the list of all words: how long it is. -/
import Derived.Test.YtjnikgliecgbdaaLawA
namespace Go.Proofs.Ytjnikgliecgbdaa
open Go.RowKit

theorem info_W : (Try.prog.info? 126).map (fun i => (i.zero, i.size, i.bytes)) = some (some (.agg #[.int .i64 0, .int .i64 0, .int .i64 0]), 3, 24) := by kernel_rfl

def confCell (T N st : Int) : Nat → Value | 0 => .int .i64 T | 1 => .int .i64 N | _ => .int .u64 st
/-- A list of words on its way. -/
structure Wds (w0 : World) (T N : Nat) (st : Int) (n : Nat) (v : Value) (W : World) : Prop where
  own : ∃ xs, W.ownsRow (w0.heap.size + 1) 126 3 v n xs
  conf : Cells W w0.heap.size 24 3 (confCell T N st)
  below : Below w0.heap.size w0 W
  lt : w0.heap.size + 1 ≤ W.heap.size

theorem news_cells (w : World) (l : List Value) (ty : TypeId) : ∀ (j : Nat) (u : Value), l[j]? = some u → (w.alloc (.cells l.toArray ty)).cell? ((⟨w.heap.size, 0, none⟩ : Addr).add j) = some u := by
  intro j u hj
  rw [Addr.add_lit]
  have h := heap_alloc_new w (.cells l.toArray ty)
  unfold World.cell?
  simp only [h, Nat.zero_add]
  simpa using hj

theorem Wds.next {w0 : World} {T N : Nat} {st : Int} {n m : Nat} {v v' : Value} {W W' : World} {o : Obj} {ys : List Value} (h : Wds w0 T N st n v W)
    (ho : W'.ownsRow (w0.heap.size + 1) 126 3 v' (n + m) ys) (hg : (W.alloc o).grownBy W' v.ownBlock) : Wds w0 T N st (n + m) v' W' := by
  obtain ⟨xs, hx⟩ := h.own
  have hold : ∀ b, b ≤ w0.heap.size → W'.heap[b]? = W.heap[b]? := fun b hb => by
    have := h.lt
    rw [hg.block b (by simp; omega) (fun e => by have := (ownsRow_block hx e.symm).1; omega), Below.heap_alloc _ _ _ (by omega)]
  refine ⟨⟨ys, ho⟩, h.conf.congr (hold _ (Nat.le_refl _)), ⟨hg.os.trans h.below.os, hg.tape.trans h.below.tape, hg.output.trans h.below.output, ?_, fun b hb => (hold b (by omega)).trans (h.below.block b hb)⟩, ?_⟩
  · have := hg.size; have := h.below.size; simp at *; omega
  · have := hg.size; have := h.lt; simp at *; omega

set_option maxRecDepth 100000 in
set_option maxHeartbeats 4000000 in
theorem law_Words (T N : Nat) (st : Int) (w : World) (hT : T ≤ 6) (hN : N ≤ 250) :
    Calls Try.prog 54 #[.agg #[.int .i64 T, .int .i64 N, .int .u64 st]] w fun e w' => (∃ a c, e = .returned (.slice a (3 + 8 * T + 7 * N) c)) ∧ Below w.heap.size w w' := by
  obtain ⟨i0, hi, hz0, hz1, hz2⟩ := info_parts info_W
  go_enter Try.func54, Try.ntmps54
  go_wp2_with fail
  have hw0 : Wds w T N st 3 (.slice (some ⟨w.heap.size + 1, 0, none⟩) 3 3) ((w.alloc (.cells #[.int .i64 T, .int .i64 N, .int .u64 st] 24)).alloc (.cells #[.int .i64 0, .int .i64 0, .int .i64 0, .int .i64 0, .int .i64 1, .int .i64 0, .int .i64 0, .int .i64 2, .int .i64 0] 126)) := by
    refine ⟨⟨[.int .i64 0, .int .i64 0, .int .i64 0, .int .i64 0, .int .i64 1, .int .i64 0, .int .i64 0, .int .i64 2, .int .i64 0], rfl, .inr ⟨w.heap.size + 1, 3, #[.int .i64 0, .int .i64 0, .int .i64 0, .int .i64 0, .int .i64 1, .int .i64 0, .int .i64 0, .int .i64 2, .int .i64 0], rfl, Nat.le_refl _, ?_, Nat.le_refl _, by decide, rfl, rfl⟩⟩, (Cells.new w _ _ _ _ (by simp) (fun i hi => by match i, hi with | 0, _ | 1, _ | 2, _ => rfl)).alloc _, ((Below.refl _ _).alloc (Nat.le_refl _) _).alloc (by simp) _, by simp⟩
    have := heap_alloc_new (w.alloc (.cells #[.int .i64 T, .int .i64 N, .int .u64 st] 24)) (.cells #[.int .i64 0, .int .i64 0, .int .i64 0, .int .i64 0, .int .i64 1, .int .i64 0, .int .i64 0, .int .i64 2, .int .i64 0] 126)
    · simpa using this


  have H0 := Lib.hid hw0
  clear hw0
  go_loopw [3, 4] (fun vs vt W => ∃ t : Nat, vt = .int .i64 t ∧ t ≤ T ∧ Hid (Wds w T N st (3 + 8 * t) vs W)) (fun _ vt _ => T - (intOf vt).toNat)
  case atStart => exact ⟨0, rfl, Nat.zero_le _, H0⟩
  case round =>
    obtain ⟨t, rfl, htT, HK⟩ := hrel
    clear H0
    have c0 : wr.cell? ⟨w.heap.size, 0, none⟩ = some (.int .i64 T) := HK.out.conf.cell 0 (by decide)
    by_cases ht : t < T
    · have htI : (t : Int) < T := by omega
      have et : IntKind.i64.wrap ((t : Int) + 1) = t + 1 := IntWalk.i64_in _ (by omega)
      obtain ⟨xsA1, hxA1⟩ := HK.out.own
      have HXA1 := Lib.hid hxA1
      clear hxA1
      have hltA1 := HK.out.lt
      go_wp2_with (at_builtin; refine wpList_append_own _ rfl (.tmp 19) (.tmp 24) 111 rfl (w.heap.size + 1) 126 i0 (.agg #[.int .i64 0, .int .i64 0, .int .i64 0]) 3 24 Try.underlying111 hi hz0 hz1 hz2 rfl (by decide) u3 (3 + 8 * t) xsA1 rfl (HXA1.out.alloc _) ⟨wr.heap.size, 0, none⟩ 2 2 [.int .i64 1, .int .i64 t, .int .i64 0, .int .i64 2, .int .i64 t, .int .i64 0] rfl rfl (news_cells _ _ _) ?hone (by unfold maxLen; omega) (by omega) (by simp; omega) ?hk)
      case hone => simp [Value.oneCell']
      case hk =>
      intro vA1 wA1 hownA1 hgA1 _
      have A1 := Lib.hid (HK.out.next hownA1 hgA1)
      clear hownA1 hgA1 HXA1 hltA1 HK
      clear c0
      go_wp2_with fail
      go_loopw [3, 5] (fun vs vb W => ∃ b : Nat, vb = .int .i64 b ∧ b ≤ 3 ∧ Hid (Wds w T N st (3 + 8 * t + 2 + b) vs W)) (fun _ vb _ => 3 - (intOf vb).toNat)
      case atStart => exact ⟨0, rfl, Nat.zero_le _, A1⟩
      case round =>
        obtain ⟨b, rfl, hb3, HL⟩ := hrel
        clear A1
        by_cases hb : b < 3
        · have hbI : (b : Int) < 3 := by omega
          have eb : IntKind.i64.wrap ((b : Int) + 1) = b + 1 := IntWalk.i64_in _ (by omega)
          obtain ⟨xsA2, hxA2⟩ := HL.out.own
          have HXA2 := Lib.hid hxA2
          clear hxA2
          have hltA2 := HL.out.lt
          go_wp2_with (at_builtin; refine wpList_append_own _ rfl (.tmp 30) (.tmp 34) 111 rfl (w.heap.size + 1) 126 i0 (.agg #[.int .i64 0, .int .i64 0, .int .i64 0]) 3 24 Try.underlying111 hi hz0 hz1 hz2 rfl (by decide) u3 (3 + 8 * t + 2 + b) xsA2 rfl (HXA2.out.alloc _) ⟨wr.heap.size, 0, none⟩ 1 1 [.int .i64 3, .int .i64 t, .int .i64 b] rfl rfl (news_cells _ _ _) ?hone (by unfold maxLen; omega) (by omega) (by simp; omega) ?hk)
          case hone => simp [Value.oneCell']
          case hk =>
          intro vA2 wA2 hownA2 hgA2 _
          have A2 := Lib.hid (HL.out.next hownA2 hgA2)
          clear hownA2 hgA2 HXA2 hltA2 HL
          go_wp2_with fail
          go_roundw
          case rel => exact ⟨b + 1, by go_num, by omega, A2⟩
          case measure => simp [intOf]; omega
        · have hbI : ¬ (b : Int) < 3 := by omega
          have hb' : b = 3 := by omega
          subst hb'
          go_wp2_with fail
          go_loopw [3, 6] (fun vs vb W => ∃ b : Nat, vb = .int .i64 b ∧ b ≤ 3 ∧ Hid (Wds w T N st (3 + 8 * t + 2 + 3 + b) vs W)) (fun _ vb _ => 3 - (intOf vb).toNat)
          case atStart => exact ⟨0, rfl, Nat.zero_le _, HL⟩
          case round =>
            obtain ⟨b, rfl, hb3', HM⟩ := hrel
            clear HL
            by_cases hb : b < 3
            · have hbI : (b : Int) < 3 := by omega
              have eb : IntKind.i64.wrap ((b : Int) + 1) = b + 1 := IntWalk.i64_in _ (by omega)
              obtain ⟨xsA3, hxA3⟩ := HM.out.own
              have HXA3 := Lib.hid hxA3
              clear hxA3
              have hltA3 := HM.out.lt
              go_wp2_with (at_builtin; refine wpList_append_own _ rfl (.tmp 40) (.tmp 44) 111 rfl (w.heap.size + 1) 126 i0 (.agg #[.int .i64 0, .int .i64 0, .int .i64 0]) 3 24 Try.underlying111 hi hz0 hz1 hz2 rfl (by decide) u3 (3 + 8 * t + 2 + 3 + b) xsA3 rfl (HXA3.out.alloc _) ⟨wr.heap.size, 0, none⟩ 1 1 [.int .i64 4, .int .i64 t, .int .i64 b] rfl rfl (news_cells _ _ _) ?hone (by unfold maxLen; omega) (by omega) (by simp; omega) ?hk)
              case hone => simp [Value.oneCell']
              case hk =>
              intro vA3 wA3 hownA3 hgA3 _
              have A3 := Lib.hid (HM.out.next hownA3 hgA3)
              clear hownA3 hgA3 HXA3 hltA3 HM
              go_wp2_with fail
              go_roundw
              case rel => exact ⟨b + 1, by go_num, by omega, A3⟩
              case measure => simp [intOf]; omega
            · have hbI : ¬ (b : Int) < 3 := by omega
              have hb' : b = 3 := by omega
              subst hb'
              go_wp2_with fail
              go_roundw
              case rel => exact ⟨t + 1, by go_num, by omega, HM⟩
              case measure => simp [intOf]; omega
    · have htI : ¬ (t : Int) < T := by omega
      have ht' : t = T := by omega
      subst ht'
      go_wp2_with fail
      go_loopw [3, 7] (fun vs vt W => ∃ s : Nat, vt = .int .i64 ((s : Int) + 1) ∧ s ≤ N ∧ Hid (Wds w t N st (3 + 8 * t + 7 * s) vs W)) (fun _ vt _ => N + 1 - (intOf vt).toNat)
      case atStart => exact ⟨0, rfl, Nat.zero_le _, HK⟩
      case round =>
        obtain ⟨s, rfl, hsN, HP⟩ := hrel
        clear HK c0
        have c1 : wr.cell? ⟨w.heap.size, 1, none⟩ = some (.int .i64 N) := HP.out.conf.cell 1 (by decide)
        by_cases hs : s < N
        · have hsI : (s : Int) + 1 ≤ N := by omega
          have es : IntKind.i64.wrap ((s : Int) + 1 + 1) = (s : Int) + 1 + 1 := IntWalk.i64_in _ (by omega)
          go_wp2_with fail
          clear c1
          go_loopw [3, 8] (fun vs vb W => ∃ b : Nat, vb = .int .i64 b ∧ b ≤ 7 ∧ Hid (Wds w t N st (3 + 8 * t + 7 * s + b) vs W)) (fun _ vb _ => 7 - (intOf vb).toNat)
          case atStart => exact ⟨0, rfl, Nat.zero_le _, HP⟩
          case round =>
            obtain ⟨b, rfl, hb7, HL⟩ := hrel
            clear HP
            by_cases hb : b < 7
            · have hbI : (b : Int) < 7 := by omega
              have eb : IntKind.i64.wrap ((b : Int) + 1) = b + 1 := IntWalk.i64_in _ (by omega)
              obtain ⟨xsA4, hxA4⟩ := HL.out.own
              have HXA4 := Lib.hid hxA4
              clear hxA4
              have hltA4 := HL.out.lt
              go_wp2_with (at_builtin; refine wpList_append_own _ rfl (.tmp 56) (.tmp 60) 111 rfl (w.heap.size + 1) 126 i0 (.agg #[.int .i64 0, .int .i64 0, .int .i64 0]) 3 24 Try.underlying111 hi hz0 hz1 hz2 rfl (by decide) u3 (3 + 8 * t + 7 * s + b) xsA4 rfl (HXA4.out.alloc _) ⟨wr.heap.size, 0, none⟩ 1 1 [.int .i64 5, .int .i64 ((s : Int) + 1), .int .i64 b] rfl rfl (news_cells _ _ _) ?hone (by unfold maxLen; omega) (by omega) (by simp; omega) ?hk)
              case hone => simp [Value.oneCell']
              case hk =>
              intro vA4 wA4 hownA4 hgA4 _
              have A4 := Lib.hid (HL.out.next hownA4 hgA4)
              clear hownA4 hgA4 HXA4 hltA4 HL
              go_wp2_with fail
              go_roundw
              case rel => exact ⟨b + 1, by go_num, by omega, A4⟩
              case measure => simp [intOf]; omega
            · have hbI : ¬ (b : Int) < 7 := by omega
              have hb' : b = 7 := by omega
              subst hb'
              go_wp2_with fail
              go_roundw
              case rel => exact ⟨s + 1, by go_num, by omega, HL⟩
              case measure => simp [intOf]; omega
        · have hsI : ¬ (s : Int) + 1 ≤ N := by omega
          have hs' : s = N := by omega
          subst hs'
          go_wp2_with fail
          go_ret
          refine ⟨?_, HP.out.below⟩
          obtain ⟨xs, hx⟩ := HP.out.own
          rcases hx.2 with ⟨_, e⟩ | ⟨g, cap, cur, hv, _⟩
          · omega
          · exact ⟨some ⟨g, 0, none⟩, cap, congrArg Ending.returned hv⟩
end Go.Proofs.Ytjnikgliecgbdaa
