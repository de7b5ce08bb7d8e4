/- Contracts of the law's own functions: the free list as it is, whether each slot is in place. -/
import Derived.Test.YtjnikgliecgbdaaLawC
namespace Go.Proofs.Ytjnikgliecgbdaa
open Go.RowKit

theorem Rep.thru {L : Lay} {S : MS} {w w' : World} (h : Rep L S w) (hb : Below w.heap.size w w') : Rep L S w' := h.congr hb.size fun b _ hb' => hb.block b hb'

def MS.chain (S : MS) : List Nat × Bool := chainOf S.T S.N S.words

/-- What a list that is told is. -/
def Listed (w : World) (l : List Nat) (e : Ending) (w' : World) : Prop :=
  ∃ a k, e = .returned (.slice a l.length k) ∧ w'.ownsRow w.heap.size 3 1 (.slice a l.length k) l.length (l.map fun s : Nat => Value.int .i64 (s : Int)) ∧ Below w.heap.size w w'

theorem ownsRow_base {w : World} {base base' : Nat} {e : TypeId} {size : Nat} {v : Value} {n : Nat} {xs : List Value} (h : w.ownsRow base e size v n xs) (hb : base' ≤ base) : w.ownsRow base' e size v n xs := ownsRow_mono h hb

set_option maxHeartbeats 800000 in
theorem law_chain {L : Lay} {S : MS} {w : World} (h : Rep L S w) (hwd : ∀ a, a < S.nw → 0 ≤ S.words a) :
    Calls Try.prog 11 #[.pointer (some ⟨L.s.m, 0, none⟩)] w fun e w' => Listed w S.chain.1 e w' := by
  have hT := h.T6
  have hN := h.N250
  have hnw := h.nw
  have H := Lib.hid h
  obtain ⟨ch, hch⟩ : ∃ ch, ch = S.chain := ⟨_, rfl⟩
  have HR : ∀ (w : World) (B c : Nat), Cells w B 22 S.nw (fun a => .int .u64 (S.words a)) → Calls Try.prog 29 #[.agg #[.int .i64 S.T, .int .i64 S.N, .int .u64 S.stamps], .slice (some ⟨B, 0, none⟩) S.nw c] w fun e w' => Chained w ch e w' := by
    intro w B c hc
    rw [hch]
    exact ref_Chain hc hT hN hnw hwd
  rw [← hch]
  have HRR := Lib.hid HR
  clear h hwd hch HR hnw
  go_enter Try.func11, Try.ntmps11
  go_wp2_with fail
  refine (core_Plan H.out).mono ?_
  rintro e w0 ⟨rfl, rfl⟩
  go_wp2_with fail
  refine (plan_Conf H.out).mono ?_
  rintro e w1 ⟨rfl, hb1⟩
  have H1 := Lib.hid (H.out.thru hb1)
  have HB1 := Lib.hid hb1
  clear hb1
  go_wp2_with fail
  refine (core_Mem H1.out).mono ?_
  rintro e w0 ⟨rfl, rfl⟩
  go_wp2_with fail
  refine (mem_Words H1.out).mono ?_
  rintro e w2 ⟨b, c, rfl, hc1, hc2, hc3, hc4, hc5⟩
  have HC := Lib.hid hc4
  have HB2 := Lib.hid hc5
  clear hc4 hc5
  go_wp2_with fail
  refine (HRR.out _ _ _ HC.out).mono ?_
  rintro e w3 ⟨a, k, rfl, ho, hb3⟩
  have HO := Lib.hid ho
  have HB3 := Lib.hid hb3
  clear ho hb3
  go_wp2_with fail
  go_ret
  have s1 := HB1.out.size
  have s2 := HB2.out.size
  exact ⟨a, k, rfl, ownsRow_mono HO.out (by omega), HB1.out.trans ((below_le HB2.out s1).trans (below_le HB3.out (by omega)))⟩

theorem Below.drewN_r {B : Nat} {a b : World} (h : Below B a b) (n : Nat) : Below B a (b.drewN n) := ⟨h.os, h.tape, h.output, h.size, h.block⟩

/-- What the whole list that is told is. -/
def ListedOk (w : World) (l : List Nat) (e : Ending) (w' : World) : Prop := ∃ a k, e = .returned (.tuple #[.slice a l.length k, .bool true]) ∧ Below w.heap.size w w'

set_option maxRecDepth 100000 in
set_option maxHeartbeats 2000000 in
theorem law_Chain {L : Lay} {S : MS} {w : World} (h : Rep L S w) (hwd : ∀ a, a < S.nw → 0 ≤ S.words a) (hlen : S.chain.1.length ≤ 5000) (hok : S.chain.2 = true)
    (hl : ∀ s, s ∈ S.chain.1 → S.leads (S.edge (s : Int)) = false) (hnd : ∀ (i k x : Nat), k < i → S.chain.1[i]? = some x → S.chain.1[k]? ≠ some x) :
    Calls Try.prog 45 #[.pointer (some ⟨L.s.m, 0, none⟩)] w fun e w' => ListedOk w S.chain.1 e w' := by
  have hT := h.T6
  have hN := h.N250
  have hnw := h.nw
  have H := Lib.hid h
  obtain ⟨ch, hch⟩ : ∃ ch, ch = S.chain := ⟨_, rfl⟩
  have HR : ∀ (w : World) (B c : Nat), Cells w B 22 S.nw (fun a => .int .u64 (S.words a)) → Calls Try.prog 29 #[.agg #[.int .i64 S.T, .int .i64 S.N, .int .u64 S.stamps], .slice (some ⟨B, 0, none⟩) S.nw c] w fun e w' => Chained w ch e w' := by
    intro w B c hc
    rw [hch]
    exact ref_Chain hc hT hN hnw hwd
  rw [← hch]
  simp only [← hch] at hlen hok hl hnd
  have HRR := Lib.hid HR
  obtain ⟨l, ok⟩ := ch
  simp only at hlen hok hl hnd
  subst hok
  have HL := Lib.hid hl
  have HD := Lib.hid hnd
  clear h hwd hch HR hnw hl hnd
  go_enter Try.func45, Try.ntmps45
  go_wp2_with fail
  refine (core_Plan H.out).mono ?_
  rintro e w0 ⟨rfl, rfl⟩
  go_wp2_with fail
  refine (plan_Conf H.out).mono ?_
  rintro e w1 ⟨rfl, hb1⟩
  have H1 := Lib.hid (H.out.thru hb1)
  have HB1 := Lib.hid hb1
  clear hb1
  go_wp2_with fail
  refine (core_Mem H1.out).mono ?_
  rintro e w0 ⟨rfl, rfl⟩
  go_wp2_with fail
  refine (mem_Words H1.out).mono ?_
  rintro e w2 ⟨b, c, rfl, hc1, hc2, hc3, hc4, hc5⟩
  have H2 := Lib.hid (H1.out.thru hc5)
  have HC := Lib.hid hc4
  have HB2 := Lib.hid hc5
  clear hc4 hc5
  go_wp2_with fail
  refine (HRR.out _ _ _ HC.out).mono ?_
  rintro e w3 ⟨a, k, rfl, ho, hb3⟩
  have H3 := Lib.hid (H2.out.thru hb3)
  have HO := Lib.hid ho
  have hbb : Below w.heap.size w w3 := HB1.out.trans ((below_le HB2.out HB1.out.size).trans (below_le hb3 (Nat.le_trans HB1.out.size HB2.out.size)))
  have HBB := Lib.hid hbb
  clear ho hb3 hbb HRR HC HB1 HB2 H1 H2 H hc1 hc2 hc3
  dsimp only
  go_wp2_with fail
  go_loopw [6] (fun vi W => ∃ i n : Nat, vi = .int .i64 i ∧ i ≤ l.length ∧ Hid (W = w3.drewN n)) (fun vi _ => l.length - (intOf vi).toNat)
  case atStart => exact ⟨0, 0, rfl, Nat.zero_le _, rfl⟩
  case round =>
    obtain ⟨i, n, rfl, hi, HW⟩ := hrel
    by_cases hil : i < l.length
    · have hiI : (i : Int) < l.length := by omega
      obtain ⟨g, rfl⟩ : ∃ g, a = some ⟨g, 0, none⟩ := by
        rcases HO.out.2 with ⟨_, e⟩ | ⟨g, _, _, e, _⟩
        · omega
        · simp only [Value.slice.injEq] at e; exact ⟨g, e.1⟩
      have HCell : Hid (∀ j (hj : j < l.length), wr.cell? ⟨g, j, none⟩ = some (.int .i64 (l[j] : Nat))) := by
        intro j hj
        rw [HW.out]
        have := HO.out.cellAt j (by omega)
        rw [List.getElem?_map, List.getElem?_eq_getElem hj] at this
        exact this
      have H4 : Hid (Rep L S wr) := by rw [show wr = w3.drewN n from HW.out]; exact H3.out.drewN n
      have ci := HCell.out i hil
      have hli : S.leads (S.edge ((l[i] : Nat) : Int)) = false := HL.out _ (List.getElem_mem hil)
      have CL : Hid (∀ m, Calls Try.prog 16 #[.pointer (some ⟨L.s.g, 0, none⟩), .int .u64 (S.edge ((l[i] : Nat) : Int))] (wr.drewN m) fun e w' => Quiets (.bool false) (wr.drewN m) e w') := fun m => by
        have := guard_Leads (H4.out.drewN m) (S.edge ((l[i] : Nat) : Int))
        rw [hli] at this
        exact this
      clear hli
      obtain ⟨x, hx⟩ : ∃ x : Nat, x = l[i] := ⟨_, rfl⟩
      rw [← hx] at ci CL
      have HX := Lib.hid (show l[i]? = some x by rw [hx]; exact List.getElem?_eq_getElem hil)
      clear hx
      go_wp2_with fail
      go_quiet ((first | (go_at_call 15; exact quiet_eq (core_Guard (H4.out.drewN _))) | (go_at_call 40; exact quiet_eq (guard_Edge (H4.out.drewN _) _)) | (go_at_call 16; exact quiet_q (CL.out _))))
      go_wp2_with fail
      clear ci
      go_loopw [7] (fun vj W => ∃ j m : Nat, vj = .int .i64 j ∧ j ≤ i ∧ Hid (W = w3.drewN m)) (fun vj _ => i - (intOf vj).toNat)
      case atStart => exact ⟨0, n + nq, rfl, Nat.zero_le _, Lib.hid (by rw [show wr = w3.drewN n from HW.out, World.drewN_drewN])⟩
      case round =>
        clear HCell H4 CL HW
        obtain ⟨j, m, rfl, hj, HV⟩ := hrel
        by_cases hji : j < i
        · have hjI : (j : Int) < i := by omega
          have hjl : (j : Int) < l.length := by omega
          have hjn : j < l.length := by omega
          obtain ⟨y, hy⟩ : ∃ y : Nat, l[j]? = some y := ⟨_, List.getElem?_eq_getElem hjn⟩
          have HY := Lib.hid hy
          have di : wr.cell? ⟨g, i, none⟩ = some (.int .i64 (x : Nat)) := by
            rw [show wr = w3.drewN m from HV.out]
            have := HO.out.cellAt i (by omega)
            rw [List.getElem?_map, HX.out] at this
            exact this
          have dj : wr.cell? ⟨g, j, none⟩ = some (.int .i64 (y : Nat)) := by
            rw [show wr = w3.drewN m from HV.out]
            have := HO.out.cellAt j (by omega)
            rw [List.getElem?_map, HY.out] at this
            exact this
          have hne : ¬ (x : Int) = y := fun e => HD.out i j x hji HX.out (by rw [HY.out]; congr 1; omega)
          have ej : IntKind.i64.wrap ((j : Int) + 1) = j + 1 := IntWalk.i64_in _ (by omega)
          clear hy
          go_wp2_with fail
          go_quiet ((fail))
          go_wp2_with fail
          go_roundw
          case rel => exact ⟨j + 1, m + nq, by go_num, by omega, Lib.hid (by rw [show wr = w3.drewN m from HV.out, World.drewN_drewN])⟩
          case measure => simp [intOf]; omega
        · have hjI : ¬ (j : Int) < i := by omega
          have ei : IntKind.i64.wrap ((i : Int) + 1) = i + 1 := IntWalk.i64_in _ (by omega)
          go_wp2_with fail
          go_roundw
          case rel => exact ⟨i + 1, m, by go_num, by omega, HV⟩
          case measure => simp [intOf]; omega
    · have hiI : ¬ (i : Int) < l.length := by omega
      go_wp2_with fail
      go_ret2
      exact ⟨a, k, rfl, by rw [show wr = w3.drewN n from HW.out]; exact Below.drewN_r HBB.out n⟩
end Go.Proofs.Ytjnikgliecgbdaa
