/- Contract of the free list as the answer's function reads it. -/
import Derived.Test.YtjnikgliecgbdaaLawB
namespace Go.Proofs.Ytjnikgliecgbdaa
open Go.RowKit

/-- The free list that words have: nx: what a slot's link has. -/
def chainFrom (N : Nat) (nx : Nat → Int) : Nat → List Nat → Nat → List Nat × Bool
  | 0, l, _ => (l, false)
  | fuel + 1, l, s =>
    if s = 0 then (l, true) else if N < s ∨ N < l.length then (l, false) else
    if 4095 < nx s then (l ++ [s], false) else chainFrom N nx fuel (l ++ [s]) (nx s).toNat
def chainOf (T N : Nat) (wd : Nat → Int) : List Nat × Bool := chainFrom N (fun s => wd (nodeN T s 0)) (N + 2) [] (wd 2 % 4096).toNat

structure Chg (w0 : World) (T N : Nat) (st : Int) (B nw : Nat) (wd : Nat → Int) (l : List Nat) (v : Value) (W : World) : Prop where
  own : W.ownsRow (w0.heap.size + 1) 3 1 v l.length (l.map fun s : Nat => Value.int .i64 (s : Int))
  conf : Cells W w0.heap.size 24 3 (confCell T N st)
  cells : Cells W B 22 nw (fun a => .int .u64 (wd a))
  below : Below w0.heap.size w0 W
  lt : w0.heap.size + 1 ≤ W.heap.size

theorem Chg.thru {w0 : World} {T N : Nat} {st : Int} {B nw : Nat} {wd : Nat → Int} {l : List Nat} {v : Value} {W W' : World} (h : Chg w0 T N st B nw wd l v W) (hb : Below W.heap.size W W') : Chg w0 T N st B nw wd l v W' :=
  ⟨ownsRow_congr h.own fun b hb' => hb.block b (ownsRow_block h.own hb').2, h.conf.below hb, h.cells.below hb, h.below.trans (below_le hb (by have := h.lt; omega)), Nat.le_trans h.lt hb.size⟩

theorem Chg.next {w0 : World} {T N : Nat} {st : Int} {B nw : Nat} {wd : Nat → Int} {l : List Nat} {v v' : Value} {W W' : World} {o : Obj} {s : Nat} (h : Chg w0 T N st B nw wd l v W) (hB : B < w0.heap.size)
    (ho : W'.ownsRow (w0.heap.size + 1) 3 1 v' (l.length + 1) ((l.map fun s : Nat => Value.int .i64 (s : Int)) ++ [.int .i64 s])) (hg : (W.alloc o).grownBy W' v.ownBlock) : Chg w0 T N st B nw wd (l ++ [s]) v' W' := by
  have hold : ∀ b, b ≤ w0.heap.size → W'.heap[b]? = W.heap[b]? := fun b hb => by
    have := h.lt
    rw [hg.block b (by simp; omega) (fun e => by have := (ownsRow_block h.own e.symm).1; omega), Below.heap_alloc _ _ _ (by omega)]
  refine ⟨by simpa using ho, h.conf.congr (hold _ (Nat.le_refl _)), h.cells.congr (hold _ (by omega)), ⟨hg.os.trans h.below.os, hg.tape.trans h.below.tape, hg.output.trans h.below.output, ?_, fun b hb => (hold b (by omega)).trans (h.below.block b hb)⟩, ?_⟩
  · have := hg.size; have := h.below.size; simp at *; omega
  · have := hg.size; have := h.lt; simp at *; omega

theorem ownsRow_mono {w : World} {base base' : Nat} {e : TypeId} {size : Nat} {v : Value} {n : Nat} {xs : List Value} (h : w.ownsRow base e size v n xs) (hb : base' ≤ base) : w.ownsRow base' e size v n xs := by
  refine ⟨h.1, ?_⟩
  rcases h.2 with h0 | ⟨g, cap, cur, hv, h1, h2⟩
  · exact .inl h0
  · exact .inr ⟨g, cap, cur, hv, by omega, h2⟩
theorem own_form {w : World} {base : Nat} {e : TypeId} {size : Nat} {v : Value} {n : Nat} {xs : List Value} (h : w.ownsRow base e size v n xs) : ∃ a k, v = .slice a n k := by
  rcases h.2 with ⟨rfl, rfl⟩ | ⟨g, cap, cur, rfl, _⟩
  · exact ⟨none, 0, rfl⟩
  · exact ⟨some ⟨g, 0, none⟩, cap, rfl⟩

def lenOf : Value → Nat | .slice _ n _ => n | _ => 0

def Chained (w : World) (c : List Nat × Bool) (e : Ending) (w' : World) : Prop :=
  ∃ a k, e = .returned (.tuple #[.slice a c.1.length k, .bool c.2]) ∧ w'.ownsRow w.heap.size 3 1 (.slice a c.1.length k) c.1.length (c.1.map fun s : Nat => Value.int .i64 (s : Int)) ∧ Below w.heap.size w w'

theorem info_int : (Try.prog.info? 3).map (fun i => (i.zero, i.size, i.bytes)) = some (some (.int .i64 0), 1, 8) := by kernel_rfl

set_option maxRecDepth 100000 in
set_option maxHeartbeats 4000000 in
theorem ref_Chain {w : World} {T N : Nat} {st : Int} {B nw c : Nat} {wd : Nat → Int} (h : Cells w B 22 nw (fun a => .int .u64 (wd a))) (hT : T ≤ 6) (hN : N ≤ 250) (hnw : nw = 3 + 8 * T + 7 * N) (hwd : ∀ a, a < nw → 0 ≤ wd a) :
    Calls Try.prog 29 #[.agg #[.int .i64 T, .int .i64 N, .int .u64 st], .slice (some ⟨B, 0, none⟩) nw c] w fun e w' => Chained w (chainOf T N wd) e w' := by
  obtain ⟨i0, hi, hz0, hz1, hz2⟩ := info_parts info_int
  have HN := Lib.hid hnw
  have HW := Lib.hid hwd
  have H := Lib.hid h
  have hB := h.lt
  have hn3 : 3 ≤ nw := by omega
  have hn5 : nw ≤ 5000 := by omega
  clear hnw hwd h
  go_enter Try.func29, Try.ntmps29
  go_wp2_with (go_at_call 54; fail)
  refine (law_Words T N st _ hT hN).mono ?_
  rintro e w1 ⟨⟨a, k, rfl⟩, hb1⟩
  have hc1 : Chg w T N st B nw wd [] (.slice none 0 0) w1 := by
    refine Chg.thru ⟨World.ownsRow_nil _ _ _ _, Cells.new w _ _ _ _ (by simp) (fun i hi => by match i, hi with | 0, _ | 1, _ | 2, _ => rfl), H.out.alloc _, (Below.refl _ _).alloc (Nat.le_refl _) _, by simp⟩ hb1
  have HC := Lib.hid hc1
  have w2 : w1.cell? ⟨B, 2, none⟩ = some (.int .u64 (wd 2)) := hc1.cells.cell 2 (by omega)
  have wn : (0 : Int) ≤ wd 2 := HW.out 2 (by omega)
  have hlen : ((nw : Nat) : Int) = ((3 + 8 * T + 7 * N : Nat) : Int) := by rw [HN.out]
  have hw2 : (2 : Int) < nw := by omega
  clear hb1 hc1
  rw [← HN.out]
  go_wp2_with fail
  have H0 := Lib.hid (show chainFrom N (fun s => wd (nodeN T s 0)) (N + 2 - ([] : List Nat).length) [] (wd 2 % 4096).toNat = chainOf T N wd from rfl)
  have e0 : wd 2 % 4096 = (((wd 2 % 4096).toNat : Nat) : Int) := by omega
  have e1 : (wd 2 % 4096).toNat ≤ 4095 := by omega
  go_loopw [6, 7] (fun v6 v7 W => ∃ (l : List Nat) (a : Option Addr) (k s : Nat), v6 = .slice a l.length k ∧ v7 = .int .i64 s ∧ s ≤ 4095 ∧ l.length ≤ N + 1 ∧ Hid (Chg w T N st B nw wd l (.slice a l.length k) W) ∧ Hid (chainFrom N (fun s => wd (nodeN T s 0)) (N + 2 - l.length) l s = chainOf T N wd)) (fun v6 _ _ => N + 2 - lenOf v6)
  case atStart => exact ⟨[], none, 0, _, rfl, congrArg (Value.int .i64) e0, e1, by simp, HC, H0⟩
  case round =>
    clear w2 wn hlen hw2 HC H0 e0 e1
    obtain ⟨l, la, lk, s, rfl, rfl, hs, hl, HK, HE⟩ := hrel
    have c1 : wr.cell? ⟨w.heap.size, 1, none⟩ = some (.int .i64 N) := HK.out.conf.cell 1 (by decide)
    have c0 : wr.cell? ⟨w.heap.size, 0, none⟩ = some (.int .i64 T) := HK.out.conf.cell 0 (by decide)
    have c2 : wr.cell? ⟨w.heap.size, 2, none⟩ = some (.int .u64 st) := HK.out.conf.cell 2 (by decide)
    obtain ⟨fuel, hf⟩ : ∃ f, N + 2 - l.length = f + 1 := ⟨N + 1 - l.length, by omega⟩
    by_cases hs0 : s = 0
    · subst hs0
      go_wp2_with fail
      go_ret2
      have hE := HE.out
      rw [hf, chainFrom, if_pos rfl] at hE
      rw [← hE]
      refine ⟨la, lk, rfl, ownsRow_mono HK.out.own (by omega), HK.out.below⟩
    · have hs1 : ¬ (s : Int) = 0 := by omega
      by_cases hsN : s ≤ N
      · have hsI : ¬ (N : Int) < s := by omega
        by_cases hlN : l.length ≤ N
        · have hlI : ¬ (N : Int) < l.length := by omega
          have HO := Lib.hid HK.out.own
          have hlt := HK.out.lt
          go_wp2_with (at_builtin; refine wpList_append_own _ rfl (.tmp 35) (.tmp 37) 47 rfl (w.heap.size + 1) 3 i0 (.int .i64 0) 1 8 Try.underlying47 hi hz0 hz1 hz2 rfl (by decide) (.slice la l.length lk) l.length (l.map fun s : Nat => Value.int .i64 (s : Int)) rfl (HO.out.alloc _) ⟨wr.heap.size, 0, none⟩ 1 1 [.int .i64 s] rfl rfl (news_cells _ _ _) ?hone (by unfold maxLen; omega) (by omega) (by simp; omega) ?hk)
          case hone => simp [Value.oneCell']
          case hk =>
          intro v2 wa hown hg _
          have hn := HK.out.next hB hown hg
          obtain ⟨la2, lk2, rfl⟩ := own_form hown
          have d0 : wa.cell? ⟨w.heap.size, 0, none⟩ = some (.int .i64 T) := hn.conf.cell 0 (by decide)
          have d1 : wa.cell? ⟨w.heap.size, 1, none⟩ = some (.int .i64 N) := hn.conf.cell 1 (by decide)
          have d2 : wa.cell? ⟨w.heap.size, 2, none⟩ = some (.int .u64 st) := hn.conf.cell 2 (by decide)
          have H2 := Lib.hid hn
          have hs1' : 1 ≤ s := by omega
          clear hown hg hn HO hlt HK c0 c1 c2
          go_wp2_with (go_at_call 55; fail)
          refine (law_At T N st s _ hT hN hs1' hsN).mono ?_
          rintro e wb ⟨rfl, hbb⟩
          have hn2 := H2.out.thru hbb
          have hix : nodeN T s 0 < nw := by rw [HN.out]; unfold nodeN; omega
          have hixI : ((nodeN T s 0 : Nat) : Int) < nw := by omega
          have dd : wb.cell? ⟨B, nodeN T s 0, none⟩ = some (.int .u64 (wd (nodeN T s 0))) := hn2.cells.cell _ hix
          have hge := HW.out _ hix
          have H3 := Lib.hid hn2
          clear hbb hn2 H2 d0 d1 d2
          by_cases hbig : 4095 < wd (nodeN T s 0)
          · go_wp2_with fail
            go_ret2
            have hE := HE.out
            rw [hf, chainFrom, if_neg hs0, if_neg (by omega)] at hE
            simp only [if_pos hbig] at hE
            rw [← hE]
            refine ⟨la2, lk2, ?_, ?_, H3.out.below⟩
            · simp
            · have := ownsRow_mono (base' := w.heap.size) H3.out.own (by omega)
              simpa using this
          · have hcv : IntKind.i64.wrap (wd (nodeN T s 0)) = wd (nodeN T s 0) := IntWalk.i64_in _ (by omega)
            go_wp2_with fail
            go_roundw
            case rel =>
              refine ⟨l ++ [s], la2, lk2, (wd (nodeN T s 0)).toNat, by simp, ?_, by omega, by simp; omega, ?_, ?_⟩
              · exact congrArg (Value.int .i64) (by omega)
              · rw [List.length_append]
                exact H3
              · have hE := HE.out
                rw [hf, chainFrom, if_neg hs0, if_neg (by omega)] at hE
                simp only [if_neg (show ¬ 4095 < wd (nodeN T s 0) by omega)] at hE
                rw [show N + 2 - (l ++ [s]).length = fuel by simp; omega]
                exact hE
            case measure => simp [lenOf]; omega
        · have hlI : (N : Int) < l.length := by omega
          go_wp2_with fail
          go_ret2
          have hE := HE.out
          rw [hf, chainFrom, if_neg hs0, if_pos (by omega)] at hE
          rw [← hE]
          exact ⟨la, lk, rfl, ownsRow_mono HK.out.own (by omega), HK.out.below⟩
      · have hsI : (N : Int) < s := by omega
        go_wp2_with fail
        go_ret2
        have hE := HE.out
        rw [hf, chainFrom, if_neg hs0, if_pos (by omega)] at hE
        rw [← hE]
        exact ⟨la, lk, rfl, ownsRow_mono HK.out.own (by omega), HK.out.below⟩
end Go.Proofs.Ytjnikgliecgbdaa
